/- Maps: each operation, run, does what the evaluator says. -/
import Derived.Test.YthlgaehihnoohaaGreatDoorQA
import Derived.RangeFuncRecord
import Derived.TacticsIn
import Derived.OrdersIn
import Derived.RangeFuncNested
set_option linter.unusedVariables false
set_option linter.unusedSimpArgs false
set_option linter.unusedSectionVars false
set_option linter.defProp false
section
namespace Go.Q
variable [Link]
section
variable {P : Program} {w : World} {X : Nat → Prop} {ι : Nat → Nat} {σ σ' : Sto} {n n' lk : Nat} {ρ : Operand → Value} {ρ' : Opd → V}
theorem eqKey_run {t : TypeId} {kk : KK} (hk : cKey P t = some kk) {x y : V} {a z : Value} {b : Bool} (hx : Rep w X ι n x a) (hy : Rep w X ι n y z) (hb : eqKey kk x y = some b) :
 (Op.equal t a z).run P w = .ok b w := by
 unfold cKey at hk
 split at hk
 ·simp only [Option.some.injEq] at hk; subst hk
  rename_i ht
  rw [equal_succ]
  exact (eqCell_run (k := .bool) (by simp [ckOf, ht]) hx hy hb).1
 ·simp only [Option.some.injEq] at hk; subst hk
  rename_i k ht
  rw [equal_succ]
  exact (eqCell_run (k := .int) (by simp [ckOf, ht]) hx hy hb).1
 ·simp only [Option.some.injEq] at hk; subst hk
  rename_i ht
  rw [equal_succ]
  exact (eqCell_run (k := .str) (by simp [ckOf, ht]) hx hy hb).1
 ·rename_i fs ht
  simp only [Option.map_eq_some_iff] at hk
  obtain ⟨ks, hks, rfl⟩ := hk
  cases x <;> cases y <;> simp only [eqKey, reduceCtorEq] at hb
  exact eqStruct_run ht hks hx hy hb
 ·rename_i m e ht
  simp only [Option.map_eq_some_iff] at hk
  obtain ⟨ks, hks, rfl⟩ := hk
  cases x <;> cases y <;> simp only [eqKey, reduceCtorEq] at hb
  exact eqArr_run ht hks hx hy hb
 ·cases hk
theorem bytes_eq {a b : ByteArray} (h : (a == b) = true) : a = b := by
 have : (a.data == b.data) = true := h
 cases a; cases b
 exact congrArg ByteArray.mk (eq_of_beq this)
theorem bytes_refl (a : ByteArray) : (a == a) = true := by
 show (a.data == a.data) = true
 simp
theorem eqCell_same {k : CK} {x y : V} {a z : Value} (hx : Rep w X ι n x a) (hy : Rep w X ι n y z) (hb : eqCell k x y = some true) : a = z ∧ ∀ m, Instr.sameBits m a a = true := by
 cases k <;> cases x <;> cases y <;> simp only [eqCell, reduceCtorEq, Option.some.injEq, beq_iff_eq] at hb
 ·rename_i k1 a1 k2 a2
  split at hb
  ·rename_i e; subst e
   simp only [Option.some.injEq, beq_iff_eq] at hb
   subst hb
   cases hx; cases hy
   exact ⟨rfl, fun m => by cases m <;> simp [Instr.sameBits]⟩
  ·cases hb
 ·subst hb; cases hx; cases hy; exact ⟨rfl, fun m => by cases m <;> simp [Instr.sameBits]⟩
 ·have hb := bytes_eq hb
  subst hb; cases hx; cases hy; exact ⟨rfl, fun m => by cases m <;> simp [Instr.sameBits, bytes_refl]⟩
theorem eqCells_same : ∀ (ks : List CK) (xs ys : List V) (us vs : List Value), us.length = xs.length → vs.length = ys.length →
 (∀ (i : Nat) (e : V) (u : Value), xs[i]? = some e → us[i]? = some u → Rep w X ι n e u) → (∀ (i : Nat) (e : V) (u : Value), ys[i]? = some e → vs[i]? = some u → Rep w X ι n e u) →
 eqCells ks xs ys = some true → us = vs ∧ ∀ m, ∀ u ∈ us, Instr.sameBits m u u = true
 | [], xs, ys, us, vs, h1, h2, hx, hy, h => by
   cases xs <;> cases ys <;> simp [eqCells] at h
   cases us <;> simp at h1
   cases vs <;> simp at h2
   simp
 | k :: ks, xs, ys, us, vs, h1, h2, hx, hy, h => by
   cases xs with
   | nil => simp [eqCells] at h
   | cons x xs =>
     cases ys with
     | nil => simp [eqCells] at h
     | cons y ys =>
       cases us with
       | nil => simp at h1
       | cons u us =>
         cases vs with
         | nil => simp at h2
         | cons v vs =>
           simp only [eqCells, Option.bind_eq_some_iff, Option.map_eq_some_iff] at h
           obtain ⟨b, hb, c, hc, hbc⟩ := h
           simp only [Bool.and_eq_true] at hbc
           obtain ⟨rfl, rfl⟩ := hbc
           obtain ⟨rfl, s1⟩ := eqCell_same (hx 0 x u rfl rfl) (hy 0 y v rfl rfl) hb
           obtain ⟨rfl, s2⟩ := eqCells_same ks xs ys us vs (by simpa using h1) (by simpa using h2) (fun i e u he hu => hx (i + 1) e u (by simpa using he) (by simpa using hu))
            (fun i e u he hu => hy (i + 1) e u (by simpa using he) (by simpa using hu)) hc
           exact ⟨rfl, fun m => by
            intro u' hu'
            rcases List.mem_cons.1 hu' with rfl | hu'
            ·exact s1 m
            ·exact s2 m u' hu'⟩
theorem eqKey_same {kk : KK} {x y : V} {a z : Value} (hx : Rep w X ι n x a) (hy : Rep w X ι n y z) (hb : eqKey kk x y = some true) : a = z ∧ ∀ m, Instr.sameBits (m + 1) a a = true := by
 cases kk with
 | one k =>
   obtain ⟨h1, h2⟩ := eqCell_same hx hy hb
   exact ⟨h1, fun m => h2 _⟩
 | agg ks =>
   cases x <;> cases y <;> simp only [eqKey, reduceCtorEq] at hb
   cases hx with
   | agg _ us hl hr =>
     cases hy with
     | agg _ vs hl' hr' =>
       obtain ⟨h1, h2⟩ := eqCells_same ks _ _ us.toList vs.toList (by simp [hl]) (by simp [hl']) (fun i e u he hu => hr i e u he (by simpa using hu)) (fun i e u he hu => hr' i e u he (by simpa using hu)) hb
       have hu : us = vs := by
        apply Array.toList_inj.1; exact h1
       subst hu
       refine ⟨rfl, fun m => ?_⟩
       simp only [Instr.sameBits, beq_self_eq_true, Bool.true_and, List.all_eq_true]
       rintro ⟨p, q⟩ hpq
       have := List.of_mem_zip hpq
       obtain ⟨i, hi, he⟩ := List.getElem_of_mem hpq
       simp only [List.getElem_zip, Prod.mk.injEq] at he
       obtain ⟨e1, e2⟩ := he
       rw [← e1, ← e2]
       exact h2 m _ (List.getElem_mem _)
theorem run_checkFor {es : List Field} {f : Field → Sem (ForInStep PUnit)} (h : ∀ x ∈ es, (f x).run P w = .ok (.yield ()) w) :
 (forIn (m := Sem) es PUnit.unit (fun x _ => f x)).run P w = .ok () w := by
 induction es with
 | nil => rfl
 | cons x es ih =>
   simp only [List.forIn_cons, Sem.run_bind, h x (by simp), Result.andThen_ok]
   exact ih (fun y hy => h y (List.mem_cons_of_mem _ hy))
theorem run_checkRange {es : List Nat} {f : Nat → Sem (ForInStep PUnit)} (h : ∀ x ∈ es, (f x).run P w = .ok (.yield ()) w) :
 (forIn (m := Sem) es PUnit.unit (fun x _ => f x)).run P w = .ok () w := by
 induction es with
 | nil => rfl
 | cons x es ih =>
   simp only [List.forIn_cons, Sem.run_bind, h x (by simp), Result.andThen_ok]
   exact ih (fun y hy => h y (List.mem_cons_of_mem _ hy))
theorem ck_check {k : CK} {t : TypeId} (hk : ckOf P t = some k) (em : Bool) (m : Nat) (a : Value) : (Instr.checkKey em (m + 1) t a).run P w = .ok () w := by
 unfold ckOf at hk
 split at hk <;> simp only [Option.some.injEq, reduceCtorEq] at hk <;> rename_i ht <;> simp [Instr.checkKey, run_underlying ht]
theorem ck_agg {k : CK} {t : TypeId} (hk : ckOf P t = some k) : (isAgg t).run P w = .ok false w := by
 unfold ckOf at hk
 split at hk <;> simp only [Option.some.injEq, reduceCtorEq] at hk <;> rename_i ht <;> simp [isAgg, run_underlying ht]
theorem eqCells_len : ∀ (ks : List CK) (xs ys : List V) (b : Bool), eqCells ks xs ys = some b → xs.length = ks.length ∧ ys.length = ks.length
 | [], xs, ys, b, h => by cases xs <;> cases ys <;> simp [eqCells] at h; simp
 | k :: ks, xs, ys, b, h => by
   cases xs with
   | nil => simp [eqCells] at h
   | cons x xs =>
     cases ys with
     | nil => simp [eqCells] at h
     | cons y ys =>
       simp only [eqCells, Option.bind_eq_some_iff, Option.map_eq_some_iff] at h
       obtain ⟨_, _, c, hc, _⟩ := h
       have := eqCells_len ks xs ys c hc
       simp [this]
theorem run_check {t : TypeId} {kk : KK} (hk : cKey P t = some kk) {x : V} {a : Value} (hx : Rep w X ι n x a) (hb : eqKey kk x x = some true) (em : Bool) :
 (Instr.checkKey em 10000 t a).run P w = .ok () w := by
 unfold cKey at hk
 split at hk
 ·rename_i ht; exact ck_check (k := .bool) (by simp [ckOf, ht]) _ _ _
 ·rename_i ht; exact ck_check (k := .int) (by simp [ckOf, ht]) _ _ _
 ·rename_i ht; exact ck_check (k := .str) (by simp [ckOf, ht]) _ _ _
 ·rename_i fs ht
  simp only [Option.map_eq_some_iff] at hk
  obtain ⟨ks, hks, rfl⟩ := hk
  cases x <;> simp only [eqKey, reduceCtorEq] at hb
  have hlen := (eqCells_len _ _ _ _ hb).1
  cases hx with
  | agg _ us hl hr =>
    unfold cksOf at hks
    split at hks
    ·rename_i hc
     simp only [Bool.and_eq_true, Bool.not_eq_true', List.all_eq_true] at hc
     obtain ⟨⟨c1, c2⟩, c3⟩ := hc
     obtain ⟨m1, m2⟩ := mapM_get _ _ _ hks
     rw [show (10000 : Nat) = 9998 + 1 + 1 from rfl, Instr.checkKey]
     generalize 9998 = q
     simp only [Sem.run_bind, run_underlying ht, Result.andThen_ok, ← Array.forIn_toList]
     refine (congrArg (fun r => Result.andThen r _) (run_checkFor (fun f hf => ?_))).trans (by simp)
     obtain ⟨i, hi, hfi⟩ := List.getElem_of_mem hf
     have hmem : (f, i) ∈ fs.toList.zipIdx := by
      rw [List.mem_iff_getElem?]
      exact ⟨i, by simp [List.getElem?_zipIdx, hi, ← hfi]⟩
     have hoff := c1 _ hmem
     simp only [beq_iff_eq, bne_iff_ne] at hoff
     have hk1 := m2 i f _ (by rw [List.getElem?_eq_getElem hi, hfi]) (List.getElem?_eq_getElem (by omega))
     have hlt : i < us.size := by omega
     have hp : (part f.type us f.offset).run P w = .ok us[i] w := by
      rw [hoff.1]
      simp [part, ck_agg hk1, hlt]
     rw [if_pos hoff.2]
     simp only [Sem.run_bind, hp, Result.andThen_ok, ck_check hk1, Sem.run_pure]
    ·cases hks
 ·rename_i m e ht
  simp only [Option.map_eq_some_iff] at hk
  obtain ⟨ks, hks, rfl⟩ := hk
  cases x <;> simp only [eqKey, reduceCtorEq] at hb
  have hlen := (eqCells_len _ _ _ _ hb).1
  cases hx with
  | agg _ us hl hr =>
    unfold cksArr at hks
    split at hks
    ·rename_i k j hkk hj
     split at hks
     ·rename_i hc
      simp only [Option.some.injEq] at hks; subst hks
      simp only [List.length_replicate] at hlen
      rw [show (10000 : Nat) = 9998 + 1 + 1 from rfl, Instr.checkKey]
      generalize 9998 = q
      simp only [Sem.run_bind, run_underlying ht, Result.andThen_ok, Std.Legacy.Range.forIn_eq_forIn_range', Std.Legacy.Range.size, Nat.sub_zero, Nat.add_sub_cancel, Nat.div_one]
      refine (congrArg (fun r => Result.andThen r _) (run_checkRange (fun i hi => ?_))).trans (by simp)
      have hi' : i < m := by simpa using hi
      have hlt : i < us.size := by omega
      have hp : (part e us (i * 1)).run P w = .ok us[i] w := by simp [part, ck_agg hkk, hlt]
      simp only [Sem.run_bind, run_sizeOf hj, hc.1, hp, Result.andThen_ok, ck_check hkk, Sem.run_pure]
     ·cases hks
    ·cases hks
 ·cases hk
theorem run_asking {t : TypeId} {kk : KK} (hk : cKey P t = some kk) {x : V} {a : Value} (hx : Rep w X ι n x a) : ∀ (es : List (V × V × Nat)) (l : List MapEntry) (i : Nat) (r : Option Nat), l.length = es.length →
 (∀ (j : Nat) (e : V × V × Nat) (me : MapEntry), es[j]? = some e → l[j]? = some me → Rep w X ι n e.1 me.key) → findE kk x es i = some r →
 ∃ q, (Instr.findAsking t a l i).run P w = .ok q w ∧ match r with
  | none => q = none
  | some j => ∃ e me, i ≤ j ∧ es[j - i]? = some e ∧ l[j - i]? = some me ∧ q = some (j, me.val) ∧ eqKey kk x e.1 = some true
 | [], l, i, r, hl, hr, h => by
   have : l = [] := List.length_eq_zero_iff.1 (by simpa using hl)
   subst this
   simp only [findE, Option.some.injEq] at h; subst h
   exact ⟨none, by simp [Instr.findAsking], rfl⟩
 | e :: es, [], i, r, hl, hr, h => by simp at hl
 | e :: es, me :: l, i, r, hl, hr, h => by
   simp only [findE, Option.bind_eq_some_iff] at h
   obtain ⟨b, hb, h⟩ := h
   have he := eqKey_run hk hx (hr 0 e me rfl rfl) hb
   cases b
   ·simp only [Bool.false_eq_true, if_false] at h
    obtain ⟨q, h1, h2⟩ := run_asking hk hx es l (i + 1) r (by simpa using hl) (fun j e me he hm => hr (j + 1) e me (by simpa using he) (by simpa using hm)) h
    refine ⟨q, by simp only [Instr.findAsking, Sem.run_bind, he, Result.andThen_ok, Bool.false_eq_true, if_false, h1], ?_⟩
    cases r with
    | none => exact h2
    | some j =>
      obtain ⟨e', me', a1, a2, a3, a4, a5⟩ := h2
      refine ⟨e', me', by omega, ?_, ?_, a4, a5⟩
      ·rw [show j - i = (j - (i + 1)) + 1 by omega]; simpa using a2
      ·rw [show j - i = (j - (i + 1)) + 1 by omega]; simpa using a3
   ·simp only [if_true, Option.some.injEq] at h
    subst h
    exact ⟨_, by simp [Instr.findAsking, Sem.run_bind, he], e, me, Nat.le_refl _, by simp, by simp, rfl, hb⟩
theorem run_now {d : TypeDesc} {k : CK} (hd : match k with | .bool => d = .bool | .int => ∃ j, d = .int j | .str => d = .string) {x : V} {a : Value} (hx : Rep w X ι n x a) : ∀ (es : List (V × V × Nat)) (l : List MapEntry) (i : Nat) (r : Option Nat), l.length = es.length →
 (∀ (j : Nat) (e : V × V × Nat) (me : MapEntry), es[j]? = some e → l[j]? = some me → Rep w X ι n e.1 me.key) → findE (.one k) x es i = some r →
 ∃ q, Instr.findNow d a l i = some q ∧ match r with
  | none => q = none
  | some j => ∃ e me, i ≤ j ∧ es[j - i]? = some e ∧ l[j - i]? = some me ∧ q = some (j, me.val) ∧ eqKey (.one k) x e.1 = some true
 | [], l, i, r, hl, hr, h => by
   have : l = [] := List.length_eq_zero_iff.1 (by simpa using hl)
   subst this
   simp only [findE, Option.some.injEq] at h; subst h
   exact ⟨none, by simp [Instr.findNow], rfl⟩
 | e :: es, [], i, r, hl, hr, h => by simp at hl
 | e :: es, me :: l, i, r, hl, hr, h => by
   simp only [findE, Option.bind_eq_some_iff] at h
   obtain ⟨b, hb, h⟩ := h
   have he : Instr.sameNow d a me.key = some b := by
    have hk := hr 0 e me rfl rfl
    obtain ⟨ek, ev⟩ := e
    simp only at hk hb
    simp only [eqKey] at hb
    generalize me.key = mk at hk
    cases k <;> cases x <;> cases ek <;> simp only [eqCell, reduceCtorEq, Option.some.injEq] at hb
    ·obtain ⟨j, rfl⟩ := hd
     cases hx; cases hk; simpa [Instr.sameNow] using hb
    ·subst hd; cases hx; cases hk; simpa [Instr.sameNow] using hb
    ·subst hd; cases hx; cases hk; simpa [Instr.sameNow] using hb
   cases b
   ·simp only [Bool.false_eq_true, if_false] at h
    obtain ⟨q, h1, h2⟩ := run_now hd hx es l (i + 1) r (by simpa using hl) (fun j e me he hm => hr (j + 1) e me (by simpa using he) (by simpa using hm)) h
    refine ⟨q, by simp only [Instr.findNow, he, h1], ?_⟩
    cases r with
    | none => exact h2
    | some j =>
      obtain ⟨e', me', a1, a2, a3, a4, a5⟩ := h2
      refine ⟨e', me', by omega, ?_, ?_, a4, a5⟩
      ·rw [show j - i = (j - (i + 1)) + 1 by omega]; simpa using a2
      ·rw [show j - i = (j - (i + 1)) + 1 by omega]; simpa using a3
   ·simp only [if_true, Option.some.injEq] at h
    subst h
    exact ⟨_, by simp only [Instr.findNow, he], e, me, Nat.le_refl _, by simp, by simp, rfl, hb⟩
def Found (kk : KK) (x : V) (es : List (V × V × Nat)) (l : Array MapEntry) (r : Option Nat) (q : Option (Nat × Value)) : Prop :=
 match r with
 | none => q = none
 | some j => ∃ e me, es[j]? = some e ∧ l[j]? = some me ∧ q = some (j, me.val) ∧ eqKey kk x e.1 = some true
theorem run_find {t : TypeId} {kk : KK} (hk : cKey P t = some kk) {x : V} {a : Value} (hx : Rep w X ι n x a) (hb : eqKey kk x x = some true) {es : List (V × V × Nat)} {l : Array MapEntry} {r : Option Nat} (hl : l.size = es.length)
 (hr : ∀ (j : Nat) (e : V × V × Nat) (me : MapEntry), es[j]? = some e → l[j]? = some me → Rep w X ι n e.1 me.key) (h : findE kk x es 0 = some r) :
 ∃ q, (Instr.findKey t a l.toList).run P w = .ok q w ∧ Found kk x es l r q := by
 have hr' : ∀ (j : Nat) (e : V × V × Nat) (me : MapEntry), es[j]? = some e → l.toList[j]? = some me → Rep w X ι n e.1 me.key := fun j e me he hm => hr j e me he (by simpa using hm)
 have now : ∀ {d : TypeDesc} {k : CK}, P.underlying t = some d → kk = .one k → (match k with | .bool => d = .bool | .int => ∃ j, d = .int j | .str => d = .string) →
  ∃ q, (Instr.findKey t a l.toList).run P w = .ok q w ∧ Found kk x es l r q := by
  intro d k ht hkk hd
  subst hkk
  obtain ⟨q, h1, h2⟩ := run_now hd hx es l.toList 0 r (by simpa using hl) hr' h
  refine ⟨q, by simp only [Instr.findKey, Sem.run_bind, run_underlying ht, Result.andThen_ok, h1, Sem.run_pure], ?_⟩
  cases r with
  | none => exact h2
  | some j =>
    obtain ⟨e, me, _, a2, a3, a4, a5⟩ := h2
    exact ⟨e, me, by simpa using a2, by simpa using a3, a4, a5⟩
 have asking : ∀ {d : TypeDesc}, P.underlying t = some d → (∀ u v, Instr.sameNow d (.agg u) v = none) → (∃ us, a = .agg us) → ∃ q, (Instr.findKey t a l.toList).run P w = .ok q w ∧ Found kk x es l r q := by
  intro d ht hd ⟨us, hus⟩
  subst hus
  obtain ⟨q, h1, h2⟩ := run_asking hk hx es l.toList 0 r (by simpa using hl) hr' h
  have hF : Found kk x es l r q := by
   cases r with
   | none => exact h2
   | some j =>
     obtain ⟨e, me, _, a2, a3, a4, a5⟩ := h2
     exact ⟨e, me, by simpa using a2, by simpa using a3, a4, a5⟩
  cases hll : l.toList with
  | nil =>
    rw [hll] at h1
    simp only [Instr.findAsking, Sem.run_pure, Result.ok.injEq, and_true] at h1
    subst h1
    exact ⟨none, by simp [Instr.findKey, Sem.run_bind, run_underlying ht, Instr.findNow], hF⟩
  | cons me l' =>
    refine ⟨q, ?_, hF⟩
    rw [← hll]
    have : Instr.findNow d (.agg us) l.toList 0 = none := by rw [hll]; simp [Instr.findNow, hd]
    simp only [Instr.findKey, Sem.run_bind, run_underlying ht, Result.andThen_ok, this, h1]
 have hk' := hk
 unfold cKey at hk'
 split at hk'
 ·rename_i ht; exact now ht (Option.some.inj hk').symm rfl
 ·rename_i j ht; exact now ht (Option.some.inj hk').symm ⟨j, rfl⟩
 ·rename_i ht; exact now ht (Option.some.inj hk').symm rfl
 ·rename_i fs ht
  simp only [Option.map_eq_some_iff] at hk'
  obtain ⟨ks, hks, rfl⟩ := hk'
  refine asking ht (fun u v => by cases v <;> rfl) ?_
  cases x <;> simp only [eqKey, reduceCtorEq] at hb
  cases hx with
  | agg _ us _ _ => exact ⟨us, rfl⟩
 ·rename_i m e ht
  simp only [Option.map_eq_some_iff] at hk'
  obtain ⟨ks, hks, rfl⟩ := hk'
  refine asking ht (fun u v => by cases v <;> rfl) ?_
  cases x <;> simp only [eqKey, reduceCtorEq] at hb
  cases hx with
  | agg _ us _ _ => exact ⟨us, rfl⟩
 ·cases hk'
theorem cMap_spec {t : TypeId} {kk : KK} {z : V} (h : cMap P t = some (kk, z)) : ∃ kt e j, P.underlying t = some (.map kt e) ∧ cKey P kt = some kk ∧ ti P e = some j ∧ j.zero = z := by
 unfold cMap at h
 split at h
 ·rename_i kt e ht
  simp only [Option.bind_eq_some_iff, Option.map_eq_some_iff, Prod.mk.injEq] at h
  obtain ⟨kk', hk, j, hj, rfl, rfl⟩ := h
  exact ⟨kt, e, j, ht, hk, hj, rfl⟩
 ·cases h
theorem run_getO {r : Nat} {o : Obj} (h : w.heap[r]? = some o) (ho : ∀ c t f, o ≠ .cells c t f := by intro _ _ _ e; cases e) : (getObj r).run P w = .ok o w := by
 cases o <;> first | exact absurd rfl (ho _ _ _) | simp [getObj, Sem.run, h]
theorem run_setO {r : Nat} {o o' : Obj} (h : w.heap[r]? = some o) (ho : ∀ c t f, o ≠ .cells c t f := by intro _ _ _ e; cases e) : (setObj r o').run P w = .ok () (putOb w r o') := by
 cases o <;> first | exact absurd rfl (ho _ _ _) | simp [setObj, Sem.run, h, putOb]
theorem ev_mkmap (hw : WF w X ι σ n) (hl : lk ≤ n) {t : TypeId} {kt e : TypeId} (ht : P.underlying t = some (.map kt e)) {rs : Option Value} (hrs : rs = none ∨ ∃ k m, rs = some (.int k m)) {v : V}
 (h : ev ρ' σ n lk .mkmap = some (v, σ', n')) : Good w X ι σ n lk (((do pure (.value (← Instr.makeMap t rs)) : Sem Next)).run P w) v σ' n' := by
 simp only [ev, Option.some.injEq, Prod.mk.injEq] at h
 obtain ⟨rfl, rfl, rfl⟩ := h
 have hnew : (w.alloc (.map #[] 0)).heap[w.heap.size]? = some (.map #[] 0) := by
  show (w.heap.push _)[w.heap.size]? = _
  simp
 refine ⟨w.alloc (.map #[] 0), addX X w.heap.size, setι ι n w.heap.size, .map (some w.heap.size), .inl ?_, ?_, new_obj hw rfl ⟨#[], hnew, rfl, by simp⟩, Ext.newO hw hl _ _⟩
 ·rcases hrs with rfl | ⟨k, m, rfl⟩
  ·simp [Instr.makeMap, Sem.run_bind, run_newObj]
  ·simp [Instr.makeMap, Sem.run_bind, run_newObj, run_underlying ht, asInt, asIntOf]
 ·have := Rep.mp (w := w.alloc (.map #[] 0)) (X := addX X w.heap.size) (ι := setι ι n w.heap.size) (n := n + 1) n (by omega) (by simp [setι])
  simpa [setι] using this
theorem ev_mget (hw : WF w X ι σ n) {t : TypeId} {kk : KK} {z : V} {ok : Bool} {m k : Operand} {m' k' : Opd} (hc : cMap P t = some (kk, z)) (hm : Rep w X ι n (ρ' m') (ρ m)) (hk : Rep w X ι n (ρ' k') (ρ k)) {v : V}
 (h : ev ρ' σ n lk (.mget ok kk z m' k') = some (v, σ', n')) : Good w X ι σ n lk (((do pure (.value (← Instr.lookup t (ρ m) (ρ k) ok)) : Sem Next)).run P w) v σ' n' := by
 obtain ⟨kt, e, j, ht, hkk, hj, hz⟩ := cMap_spec hc
 obtain ⟨zv, hz1, hz2⟩ := run_zeroValue (w := w) hj
 rw [hz] at hz2
 simp only [ev, Option.bind_eq_some_iff] at h
 obtain ⟨es, hes, h⟩ := h
 split at h
 rotate_left
 ·cases h
 rename_i hkey
 simp only [Option.bind_eq_some_iff] at h
 obtain ⟨r, hr, h⟩ := h
 have hmem : ∃ mes : Array MapEntry, mes.size = es.length ∧ (∀ (i : Nat) (e : V × V × Nat) (me : MapEntry), es[i]? = some e → mes[i]? = some me → me.born = e.2.2 ∧ Rep w X ι n e.1 me.key ∧ Rep w X ι n e.2.1 me.val) ∧
  ((ρ m = .map none ∧ mes = #[]) ∨ ∃ r clk, ρ m = .map (some r) ∧ w.heap[r]? = some (.map mes clk)) := by
  unfold mapOf at hes
  split at hes
  ·rename_i hv
   rw [hv] at hm
   generalize ρ m = um at hm
   cases hm
   simp only [Option.some.injEq] at hes; subst hes
   exact ⟨#[], rfl, by simp, .inl ⟨rfl, rfl⟩⟩
  ·rename_i id hv
   split at hes
   ·rename_i es' clk hs
    simp only [Option.some.injEq] at hes; subst hes
    rw [hv] at hm
    generalize ρ m = um at hm
    cases hm
    obtain ⟨mes, a1, a2, a3⟩ := hw.mi id _ hs
    exact ⟨mes, a2, a3, .inr ⟨_, _, rfl, a1⟩⟩
   ·cases hes
  ·cases hes
 obtain ⟨mes, a2, a3, a4⟩ := hmem
 obtain ⟨q, b1, b2⟩ := run_find hkk hk hkey a2 (fun j e me he hme => (a3 j e me he hme).2.1) hr
 have hrun : (Instr.lookup t (ρ m) (ρ k) ok).run P w = (match q with
  | some (_, v) => .ok (if ok then .tuple #[v, .bool true] else v) w
  | none => .ok (if ok then .tuple #[zv, .bool false] else zv) w) := by
  simp only [Instr.lookup, Sem.run_bind, run_underlying ht, Result.andThen_ok]
  have hck := fun em => run_check (w := w) hkk hk hkey em
  rcases a4 with ⟨e1, rfl⟩ | ⟨r', clk, e1, e2⟩
  ·rw [e1]
   have b1' : (Instr.findKey kt (ρ k) []).run P w = .ok q w := b1
   cases q with
   | none => cases ok <;> simp [Sem.run_bind, hz1, hck, b1']
   | some p => cases ok <;> simp [Sem.run_bind, hck, b1']
  ·rw [e1]
   cases q with
   | none => cases ok <;> simp [Sem.run_bind, run_getO e2, hz1, hck, b1]
   | some p => cases ok <;> simp [Sem.run_bind, run_getO e2, hck, b1]
 cases r with
 | none =>
   simp only [Option.some.injEq, Prod.mk.injEq] at h
   obtain ⟨rfl, rfl, rfl⟩ := h
   have hq : q = none := b2
   subst hq
   refine good_pure hw (u := if ok then .tuple #[zv, .bool false] else zv) (by simp only [Sem.run_bind, hrun, Result.andThen_ok, Sem.run_pure]) ?_
   cases ok
   ·exact ofValA_rep hz2
   ·refine .tup _ _ rfl (fun i e u he hu => ?_)
    match i with
    | 0 => simp at he hu; subst he; subst hu; exact ofValA_rep hz2
    | 1 => simp at he hu; subst he; subst hu; exact .bool _
    | i + 2 => simp at he
 | some i =>
   obtain ⟨e', me, c1, c2, c3, c4⟩ := b2
   subst c3
   simp only [c1, Option.map_some, Option.some.injEq, Prod.mk.injEq] at h
   obtain ⟨rfl, rfl, rfl⟩ := h
   have hval := (a3 i e' me c1 c2).2.2
   refine good_pure hw (u := if ok then .tuple #[me.val, .bool true] else me.val) (by simp only [Sem.run_bind, hrun, Result.andThen_ok, Sem.run_pure]) ?_
   cases ok
   ·exact hval
   ·refine .tup _ _ rfl (fun i e u he hu => ?_)
    match i with
    | 0 => simp at he hu; subst he; subst hu; exact hval
    | 1 => simp at he hu; subst he; subst hu; exact .bool _
    | i + 2 => simp at he
theorem set_map (hw : WF w X ι σ n) {id : Nat} {es es' : List (V × V × Nat)} {clk clk' : Nat} (hs : σ id = some (.map es clk)) (hl : lk ≤ id) {mes mes' : Array MapEntry} (hm : w.heap[ι id]? = some (.map mes clk))
 (hsz : mes'.size = es'.length) (hr : ∀ (i : Nat) (e : V × V × Nat) (me : MapEntry), es'[i]? = some e → mes'[i]? = some me → me.born = e.2.2 ∧ Rep w X ι n e.1 me.key ∧ Rep w X ι n e.2.1 me.val) :
 WF (putOb w (ι id) (.map mes' clk')) X ι (upd σ id (some (.map es' clk'))) n ∧ Ext w (putOb w (ι id) (.map mes' clk')) X X ι ι σ (upd σ id (some (.map es' clk'))) n n lk := by
 have hlt := (Array.getElem?_eq_some_iff.1 hm).1
 have hX := hw.own id (by rw [hs]; simp)
 have hrep : ∀ {v u}, Rep w X ι n v u → Rep (putOb w (ι id) (.map mes' clk')) X ι n v u := fun hh =>
  hh.move (by simp) (fun b _ hx => putOb_other (fun e => hx (e ▸ hX))) (fun b c t f hb => ⟨c, by rw [putOb_other (fun e => by rw [e, hm] at hb; cases hb)]; exact hb, rfl⟩) (fun _ _ => rfl) (fun _ _ h => h) (Nat.le_refl _)
 exact set_obj hw hs hl rfl hm ⟨(fun _ _ _ e => by cases e), (fun _ e => by cases e)⟩ ⟨mes', putOb_same hlt, hsz, fun i e me he hme => let ⟨a, b, c⟩ := hr i e me he hme; ⟨a, hrep b, hrep c⟩⟩
theorem run_stays {old new : Value} (h : Instr.sameBits 10000 old new = true) : (Instr.keyThatStays old new).run P w = .ok new w := by
 unfold Instr.keyThatStays
 rw [if_pos h]; rfl
theorem found_key {kk : KK} {x : V} {a : Value} {es : List (V × V × Nat)} {mes : Array MapEntry} {i : Nat} {q : Option (Nat × Value)} (hx : Rep w X ι n x a)
 (hr : ∀ (i : Nat) (e : V × V × Nat) (me : MapEntry), es[i]? = some e → mes[i]? = some me → me.born = e.2.2 ∧ Rep w X ι n e.1 me.key ∧ Rep w X ι n e.2.1 me.val) (h : Found kk x es mes (some i) q) :
 ∃ e me, es[i]? = some e ∧ mes[i]? = some me ∧ q = some (i, me.val) ∧ (Instr.keyThatStays (((mes[i]?).map (·.key)).getD a) a).run P w = .ok a w := by
 obtain ⟨e, me, h1, h2, h3, h4⟩ := h
 refine ⟨e, me, h1, h2, h3, ?_⟩
 have hk := (hr i e me h1 h2).2.1
 obtain ⟨h5, h6⟩ := eqKey_same hx hk h4
 rw [h2]
 simp only [Option.map_some, Option.getD_some, ← h5]
 exact run_stays (h6 9999)
theorem ev_mupd (hw : WF w X ι σ n) {t : TypeId} {kk : KK} {z : V} {m k x : Operand} {m' k' x' : Opd} (hc : cMap P t = some (kk, z)) (hm : Rep w X ι n (ρ' m') (ρ m)) (hk : Rep w X ι n (ρ' k') (ρ k))
 (hx : Rep w X ι n (ρ' x') (ρ x)) {v : V} (h : ev ρ' σ n lk (.mupd kk m' k' x') = some (v, σ', n')) :
 Good w X ι σ n lk (((do Instr.mapUpdate t (ρ m) (ρ k) (ρ x); pure .skip : Sem Next)).run P w) v σ' n' := by
 obtain ⟨kt, e, j, ht, hkk, hj, hz⟩ := cMap_spec hc
 simp only [ev] at h
 split at h <;> try cases h
 rename_i id hv
 split at h <;> try cases h
 rename_i es clk hs
 split at h <;> try cases h
 rename_i hcond
 obtain ⟨hl, hkey⟩ := hcond
 simp only [Option.map_eq_some_iff] at h
 obtain ⟨r, hr, h⟩ := h
 rw [hv] at hm
 generalize ρ m = um at hm
 cases hm
 obtain ⟨mes, a1, a2, a3⟩ := hw.mi id _ hs
 obtain ⟨q, b1, b2⟩ := run_find hkk hk hkey a2 (fun j e me he hme => (a3 j e me he hme).2.1) hr
 have hck := run_check (w := w) hkk hk hkey false
 cases r with
 | none =>
   simp only [Prod.mk.injEq] at h
   obtain ⟨rfl, rfl, rfl⟩ := h
   have hq : q = none := b2
   subst hq
   obtain ⟨wf, ex⟩ := set_map (es' := es ++ [(ρ' k', ρ' x', clk)]) (mes' := mes.push { key := ρ k, val := ρ x, born := clk }) (clk' := clk + 1) hw hs hl a1 (by simp [a2]) (fun i e me he hme => by
    rw [List.getElem?_append] at he
    rw [Array.getElem?_push] at hme
    by_cases hi : i < es.length
    ·rw [if_pos hi] at he
     rw [if_neg (by omega)] at hme
     exact a3 i e me he hme
    ·rw [if_neg hi] at he
     by_cases hi2 : i = mes.size
     ·rw [if_pos hi2] at hme
      rw [show i - es.length = 0 by omega] at he
      simp only [List.getElem?_cons_zero, Option.some.injEq] at he hme
      subst he; subst hme
      exact ⟨rfl, hk, hx⟩
     ·rw [List.getElem?_eq_none (by simp; omega)] at he
      cases he)
   refine ⟨_, X, ι, undef, .inr ⟨?_, rfl⟩, .undef, wf, ex⟩
   simp only [Instr.mapUpdate, Sem.run_bind, run_underlying ht, Result.andThen_ok, run_getO a1, hck, b1, run_setO a1, Sem.run_pure]
 | some i =>
   simp only [Prod.mk.injEq] at h
   obtain ⟨rfl, rfl, rfl⟩ := h
   obtain ⟨e', me, c1, c2, c3, c4⟩ := found_key (P := P) hk a3 b2
   subst c3
   obtain ⟨wf, ex⟩ := set_map (es' := es.modify i fun e => (ρ' k', ρ' x', e.2.2)) (mes' := mes.modify i fun e => { e with key := ρ k, val := ρ x }) (clk' := clk) hw hs hl a1 (by simp [a2]) (fun j e me he hme => by
    rw [List.getElem?_modify] at he
    rw [Array.getElem?_modify] at hme
    by_cases hi : i = j
    ·simp only [hi, if_true] at he hme
     simp only [Option.map_eq_some_iff] at hme
     obtain ⟨me', hme', rfl⟩ := hme
     cases hej : es[j]? with
     | none => rw [hej] at he; simp at he
     | some e0 =>
       rw [hej] at he
       simp at he
       subst he
       exact ⟨(a3 j e0 me' hej hme').1, hk, hx⟩
    ·simp only [hi, if_false] at hme
     have he : es[j]? = some e := by
      cases hej : es[j]? with
      | none => rw [hej] at he; simp at he
      | some e0 => rw [hej] at he; simpa [hi] using he
     exact a3 j e me he hme)
   refine ⟨_, X, ι, undef, .inr ⟨?_, rfl⟩, .undef, wf, ex⟩
   simp only [Instr.mapUpdate, Sem.run_bind, run_underlying ht, Result.andThen_ok, run_getO a1, hck, b1, c4, run_setO a1, Sem.run_pure]
theorem ev_ment (hw : WF w X ι σ n) {t : TypeId} {kk : KK} {z : V} {m k : Operand} {m' k' : Opd} (hc : cMap P t = some (kk, z)) (hm : Rep w X ι n (ρ' m') (ρ m)) (hk : Rep w X ι n (ρ' k') (ρ k))
 {v : V} (h : ev ρ' σ n lk (.ment kk z m' k') = some (v, σ', n')) :
 Good w X ι σ n lk (((do pure (.value (← Instr.mapEntry t (ρ m) (ρ k))) : Sem Next)).run P w) v σ' n' := by
 obtain ⟨kt, e, j, ht, hkk, hj, hz⟩ := cMap_spec hc
 obtain ⟨zv, hz1, hz2⟩ := run_zeroValue (w := w) hj
 rw [hz] at hz2
 simp only [ev] at h
 split at h <;> try cases h
 rename_i id hv
 split at h <;> try cases h
 rename_i es clk hs
 split at h <;> try cases h
 rename_i hcond
 obtain ⟨hl, hkey⟩ := hcond
 simp only [Option.bind_eq_some_iff] at h
 obtain ⟨r, hr, h⟩ := h
 rw [hv] at hm
 generalize ρ m = um at hm
 cases hm
 obtain ⟨mes, a1, a2, a3⟩ := hw.mi id _ hs
 obtain ⟨q, b1, b2⟩ := run_find hkk hk hkey a2 (fun j e me he hme => (a3 j e me he hme).2.1) hr
 have hck := run_check (w := w) hkk hk hkey false
 cases r with
 | none =>
   simp only [Option.some.injEq, Prod.mk.injEq] at h
   obtain ⟨rfl, rfl, rfl⟩ := h
   have hq : q = none := b2
   subst hq
   obtain ⟨wf, ex⟩ := set_map (es' := es ++ [(ρ' k', z, clk)]) (mes' := mes.push { key := ρ k, val := zv, born := clk }) (clk' := clk + 1) hw hs hl a1 (by simp [a2]) (fun i e me he hme => by
    rw [List.getElem?_append] at he
    rw [Array.getElem?_push] at hme
    by_cases hi : i < es.length
    ·rw [if_pos hi] at he
     rw [if_neg (by omega)] at hme
     exact a3 i e me he hme
    ·rw [if_neg hi] at he
     by_cases hi2 : i = mes.size
     ·rw [if_pos hi2] at hme
      rw [show i - es.length = 0 by omega] at he
      simp only [List.getElem?_cons_zero, Option.some.injEq] at he hme
      subst he; subst hme
      exact ⟨rfl, hk, ofValA_rep hz2⟩
     ·rw [List.getElem?_eq_none (by simp; omega)] at he
      cases he)
   refine ⟨_, X, ι, .tuple #[zv, goInt clk], .inl ?_, ?_, wf, ex⟩
   ·simp only [Instr.mapEntry, Sem.run_bind, run_underlying ht, Result.andThen_ok, run_getO a1, hck, b1, hz1, run_setO a1, Sem.run_pure]
   ·refine .tup _ _ rfl (fun i e u he hu => ?_)
    match i with
    | 0 => simp at he hu; subst he; subst hu; exact ofValA_rep hz2
    | 1 => simp [goInt] at he hu; subst he; subst hu; exact .int _ _
    | i + 2 => simp at he
 | some i =>
   obtain ⟨e', me, c1, c2, c3, c4⟩ := found_key (P := P) hk a3 b2
   subst c3
   simp only [c1, Option.map_some, Option.some.injEq, Prod.mk.injEq] at h
   obtain ⟨rfl, rfl, rfl⟩ := h
   obtain ⟨wf, ex⟩ := set_map (es' := es.modify i fun e => (ρ' k', e.2)) (mes' := mes.modify i fun e => { e with key := ρ k }) (clk' := clk) hw hs hl a1 (by simp [a2]) (fun j e me he hme => by
    rw [List.getElem?_modify] at he
    rw [Array.getElem?_modify] at hme
    by_cases hi : i = j
    ·simp only [hi, if_true] at he hme
     simp only [Option.map_eq_some_iff] at hme
     obtain ⟨me', hme', rfl⟩ := hme
     cases hej : es[j]? with
     | none => rw [hej] at he; simp at he
     | some e0 =>
       rw [hej] at he
       simp at he
       subst he
       exact ⟨(a3 j e0 me' hej hme').1, hk, (a3 j e0 me' hej hme').2.2⟩
    ·simp only [hi, if_false] at hme
     have he : es[j]? = some e := by
      cases hej : es[j]? with
      | none => rw [hej] at he; simp at he
      | some e0 => rw [hej] at he; simpa [hi] using he
     exact a3 j e me he hme)
   have h0 := a3 i e' me c1 c2
   refine ⟨_, X, ι, .tuple #[me.val, goInt me.born], .inl ?_, ?_, wf, ex⟩
   ·have hb : ((mes[i]?).map fun x => (x.born : Int)).getD 0 = me.born := by rw [c2]; rfl
    simp only [Instr.mapEntry, Sem.run_bind, run_underlying ht, Result.andThen_ok, run_getO a1, hck, b1, c4, run_setO a1, Sem.run_pure, hb]
   ·refine .tup _ _ rfl (fun i e u he hu => ?_)
    match i with
    | 0 => simp at he hu; subst he; subst hu; exact h0.2.2.ext hw ex
    | 1 => simp [goInt] at he hu; subst he; subst hu; rw [h0.1]; exact .int _ _
    | i + 2 => simp at he
theorem arr_findIdx {α : Type} (a : Array α) (p : α → Bool) : a.findIdx? p = a.toList.findIdx? p := by cases a; simp
theorem find_born : ∀ (es : List (V × V × Nat)) (l : List MapEntry) (b : Int), l.length = es.length → (∀ (j : Nat) (e : V × V × Nat) (me : MapEntry), es[j]? = some e → l[j]? = some me → me.born = e.2.2) →
 l.findIdx? (fun me => (me.born : Int) == b) = es.findIdx? (fun e => (e.2.2 : Int) == b)
 | [], l, b, hl, h => by
   have : l = [] := List.length_eq_zero_iff.1 (by simpa using hl)
   subst this; rfl
 | e :: es, [], b, hl, h => by simp at hl
 | e :: es, me :: l, b, hl, h => by
   have h0 := h 0 e me rfl rfl
   simp only [List.findIdx?_cons, h0, find_born es l b (by simpa using hl) (fun j e me he hm => h (j + 1) e me (by simpa using he) (by simpa using hm))]
theorem ev_mest (hw : WF w X ι σ n) {t : TypeId} {m s x : Operand} {m' s' x' : Opd} (hm : Rep w X ι n (ρ' m') (ρ m)) (hs' : Rep w X ι n (ρ' s') (ρ s)) (hx : Rep w X ι n (ρ' x') (ρ x))
 {v : V} (h : ev ρ' σ n lk (.mest m' s' x') = some (v, σ', n')) :
 Good w X ι σ n lk (((do Instr.entryStore t (ρ m) (ρ s) (ρ x); pure .skip : Sem Next)).run P w) v σ' n' := by
 simp only [ev] at h
 split at h <;> try cases h
 rename_i id kd b hv hb
 split at h <;> try cases h
 rename_i es clk hs
 split at h <;> try cases h
 rename_i hl
 simp only [Option.map_eq_some_iff, Prod.mk.injEq] at h
 obtain ⟨i, hi, rfl, rfl, rfl⟩ := h
 rw [hv] at hm
 rw [hb] at hs'
 generalize ρ m = um at hm
 generalize ρ s = us at hs'
 cases hm; cases hs'
 obtain ⟨mes, a1, a2, a3⟩ := hw.mi id _ hs
 have hidx : mes.findIdx? (fun e => (e.born : Int) == b) = some i := by
  rw [← hi, ← find_born es mes.toList b (by simpa using a2) (fun j e me he hm => (a3 j e me he (by simpa using hm)).1)]
  exact arr_findIdx _ _
 obtain ⟨wf, ex⟩ := set_map (es' := es.modify i fun e => (e.1, ρ' x', e.2.2)) (mes' := mes.modify i fun e => { e with val := ρ x }) (clk' := clk) hw hs hl a1 (by simp [a2]) (fun j e me he hme => by
  rw [List.getElem?_modify] at he
  rw [Array.getElem?_modify] at hme
  by_cases hi : i = j
  ·simp only [hi, if_true] at he hme
   simp only [Option.map_eq_some_iff] at hme
   obtain ⟨me', hme', rfl⟩ := hme
   cases hej : es[j]? with
   | none => rw [hej] at he; simp at he
   | some e0 =>
     rw [hej] at he
     simp at he
     subst he
     exact ⟨(a3 j e0 me' hej hme').1, (a3 j e0 me' hej hme').2.1, hx⟩
  ·simp only [hi, if_false] at hme
   have he : es[j]? = some e := by
    cases hej : es[j]? with
    | none => rw [hej] at he; simp at he
    | some e0 => rw [hej] at he; simpa [hi] using he
   exact a3 j e me he hme)
 refine ⟨_, X, ι, undef, .inr ⟨?_, rfl⟩, .undef, wf, ex⟩
 simp only [Instr.entryStore, Sem.run_bind, run_getO a1, Result.andThen_ok, asInt, asIntOf, Sem.run_pure, hidx, run_setO a1]
theorem ev_mlen (hw : WF w X ι σ n) {t ty : TypeId} {kt e : TypeId} {m : Operand} {m' : Opd} (ht : P.underlying t = some (.map kt e)) (hm : Rep w X ι n (ρ' m') (ρ m)) {v : V}
 (h : ev ρ' σ n lk (.mlen m') = some (v, σ', n')) : Good w X ι σ n lk (((do pure (.value (← Builtin.len_ #[t] ty #[ρ m])) : Sem Next)).run P w) v σ' n' := by
 simp only [ev, Option.map_eq_some_iff, Prod.mk.injEq] at h
 obtain ⟨es, hes, rfl, rfl, rfl⟩ := h
 unfold mapOf at hes
 split at hes
 ·rename_i hv
  rw [hv] at hm
  generalize ρ m = um at hm
  cases hm
  simp only [Option.some.injEq] at hes; subst hes
  exact good_pure hw (u := goInt 0) (by simp [Builtin.len_, Sem.run_bind, run_underlying ht]) (.int _ _)
 ·rename_i id hv
  split at hes
  ·rename_i es' clk hs
   simp only [Option.some.injEq] at hes; subst hes
   rw [hv] at hm
   generalize ρ m = um at hm
   cases hm
   obtain ⟨mes, a1, a2, a3⟩ := hw.mi id _ hs
   exact good_pure hw (u := goInt mes.size) (by simp [Builtin.len_, Sem.run_bind, run_underlying ht, run_getO a1]) (by rw [← a2]; exact .int _ _)
  ·cases hes
 ·cases hes
theorem ev_mdel (hw : WF w X ι σ n) {t t2 ty : TypeId} {kk : KK} {z : V} {m k : Operand} {m' k' : Opd} (hc : cMap P t = some (kk, z)) (hm : Rep w X ι n (ρ' m') (ρ m)) (hk : Rep w X ι n (ρ' k') (ρ k))
 {v : V} (h : ev ρ' σ n lk (.mdel kk m' k') = some (v, σ', n')) :
 Good w X ι σ n lk (((do pure (.value (← Builtin.delete_ #[t, t2] ty #[ρ m, ρ k])) : Sem Next)).run P w) v σ' n' := by
 obtain ⟨kt, e, j, ht, hkk, hj, hz⟩ := cMap_spec hc
 simp only [ev] at h
 split at h <;> try cases h
 rename_i id hv
 split at h <;> try cases h
 rename_i es clk hs
 split at h <;> try cases h
 rename_i hcond
 obtain ⟨hl, hkey⟩ := hcond
 simp only [Option.map_eq_some_iff] at h
 obtain ⟨r, hr, h⟩ := h
 rw [hv] at hm
 generalize ρ m = um at hm
 cases hm
 obtain ⟨mes, a1, a2, a3⟩ := hw.mi id _ hs
 obtain ⟨q, b1, b2⟩ := run_find hkk hk hkey a2 (fun j e me he hme => (a3 j e me he hme).2.1) hr
 have hck := fun em => run_check (w := w) hkk hk hkey em
 cases r with
 | none =>
   simp only [Prod.mk.injEq] at h
   obtain ⟨rfl, rfl, rfl⟩ := h
   have hq : q = none := b2
   subst hq
   obtain ⟨wf, ex⟩ := set_map (es' := es) (mes' := mes) (clk' := clk) hw hs hl a1 a2 a3
   refine ⟨_, X, ι, .tuple #[], .inl ?_, .undef, wf, ex⟩
   simp [Builtin.delete_, Sem.run_bind, run_underlying ht, run_getO a1, hck, b1, run_setO a1]
 | some i =>
   simp only [Prod.mk.injEq] at h
   obtain ⟨rfl, rfl, rfl⟩ := h
   obtain ⟨e', me, c1, c2, c3, c4⟩ := found_key (P := P) hk a3 b2
   subst c3
   have hi : i < mes.size := (Array.getElem?_eq_some_iff.1 c2).1
   have h2 : i < es.length := by omega
   have hsz' : (mes.eraseIdxIfInBounds i).size = (es.eraseIdx i).length := by simp [Array.eraseIdxIfInBounds, hi, List.length_eraseIdx, h2, a2]
   obtain ⟨wf, ex⟩ := set_map (es' := es.eraseIdx i) (mes' := mes.eraseIdxIfInBounds i) (clk' := clk) hw hs hl a1 hsz' (fun j e me he hme => by
    rw [List.getElem?_eraseIdx] at he
    simp only [Array.eraseIdxIfInBounds, hi, dif_pos] at hme
    rw [Array.getElem?_eraseIdx] at hme
    split at he
    ·rename_i hlt; rw [if_pos hlt] at hme; exact a3 _ e me he hme
    ·rename_i hlt; rw [if_neg hlt] at hme; exact a3 _ e me he hme)
   refine ⟨_, X, ι, .tuple #[], .inl ?_, .undef, wf, ex⟩
   simp [Builtin.delete_, Sem.run_bind, run_underlying ht, run_getO a1, hck, b1, run_setO a1]
theorem ev_range (hw : WF w X ι σ n) (hl : lk ≤ n) {t : TypeId} {kt e : TypeId} {m : Operand} {m' : Opd} (ht : P.underlying t = some (.map kt e)) (hm : Rep w X ι n (ρ' m') (ρ m)) {v : V}
 (h : ev ρ' σ n lk (.range m') = some (v, σ', n')) : Good w X ι σ n lk (((do pure (.value (← Instr.range t (ρ m))) : Sem Next)).run P w) v σ' n' := by
 simp only [ev] at h
 split at h
 rotate_left
 ·cases h
 rename_i id hv
 split at h
 rotate_left
 ·cases h
 rename_i es clk hs
 simp only [Option.some.injEq, Prod.mk.injEq] at h
 obtain ⟨rfl, rfl, rfl⟩ := h
 rw [hv] at hm
 generalize ρ m = um at hm
 cases hm
 obtain ⟨mes, a1, a2, a3⟩ := hw.mi id _ hs
 have hid := hw.dom id (by rw [hs]; simp)
 have hnew : (w.alloc (.mapIter (some (ι id)) clk #[] clk)).heap[w.heap.size]? = some (.mapIter (some (ι id)) clk #[] clk) := by
  show (w.heap.push _)[w.heap.size]? = _
  simp
 refine ⟨w.alloc (.mapIter (some (ι id)) clk #[] clk), addX X w.heap.size, setι ι n w.heap.size, .pointer (some ⟨w.heap.size, 0, none⟩), .inl ?_, ?_,
  new_obj hw rfl ⟨by omega, by simp [setι]; split <;> omega, by rw [hnew]; simp [setι]; omega⟩, Ext.newO hw hl _ _⟩
 ·simp [Instr.range, Sem.run_bind, run_underlying ht, run_getO a1, run_newObj]
 ·have := Rep.it (w := w.alloc (.mapIter (some (ι id)) clk #[] clk)) (X := addX X w.heap.size) (ι := setι ι n w.heap.size) (n := n + 1) n (by omega) (by simp [setι])
  simpa [setι] using this
theorem find_stamp : ∀ (es : List (V × V × Nat)) (l : List MapEntry) (s : Nat), l.length = es.length → (∀ (j : Nat) (e : V × V × Nat) (me : MapEntry), es[j]? = some e → l[j]? = some me → me.born = e.2.2 ∧ Rep w X ι n e.1 me.key ∧ Rep w X ι n e.2.1 me.val) →
 ∀ e, es.find? (fun e => e.2.2 == s) = some e → ∃ me, l.find? (fun me => me.born == s) = some me ∧ Rep w X ι n e.1 me.key ∧ Rep w X ι n e.2.1 me.val
 | [], l, s, hl, h, e, he => by simp at he
 | e0 :: es, [], s, hl, h, e, he => by simp at hl
 | e0 :: es, me :: l, s, hl, h, e, he => by
   have h0 := h 0 e0 me rfl rfl
   simp only [List.find?_cons] at he ⊢
   rw [h0.1]
   split at he
   ·rename_i hb
    simp only [Option.some.injEq] at he; subst he
    exact ⟨me, by simp [hb], h0.2⟩
   ·rename_i hb
    obtain ⟨me', a, b⟩ := find_stamp es l s (by simpa using hl) (fun j e me he hm => h (j + 1) e me (by simpa using he) (by simpa using hm)) e he
    exact ⟨me', by simp [hb, a], b⟩
theorem ev_entry (hw : WF w X ι σ n) {it : Operand} {it' : Opd} (hit : Rep w X ι n (ρ' it') (ρ it)) {v : V}
 (h : ev ρ' σ n lk (.entry it') = some (v, σ', n')) : Good w X ι σ n lk (((do pure (.value (← Instr.entry (ρ it))) : Sem Next)).run P w) v σ' n' := by
 simp only [ev] at h
 split at h
 rotate_left
 ·cases h
 rename_i id hv
 split at h
 rotate_left
 ·cases h
 rename_i m since seen last hs
 split at h
 rotate_left
 ·cases h
 rename_i es clk s hm hsn
 split at h
 rotate_left
 ·cases h
 rename_i hclk
 subst hclk
 simp only [Option.map_eq_some_iff, Prod.mk.injEq] at h
 obtain ⟨e, he, rfl, rfl, rfl⟩ := h
 rw [hv] at hit
 generalize ρ it = u at hit
 cases hit
 obtain ⟨i1, i0, i2⟩ := hw.mi id _ hs
 obtain ⟨mes, a1, a2, a3⟩ := hw.mi m _ hm
 obtain ⟨me, b1, b2, b3⟩ := find_stamp es mes.toList s (by simpa using a2) (fun j e me he hm => a3 j e me he (by simpa using hm)) e he
 have hb : seen.toArray.back? = some s := by simpa using hsn
 have hf : mes.find? (fun e => e.born == s) = some me := by simpa using b1
 refine good_pure hw (u := .tuple #[me.key, me.val]) ?_ (.tup _ _ rfl (fun i y u hy hu => ?_))
 ·simp [Instr.entry, Sem.run_bind, run_getO i2, hb, run_getO a1, hf]
 ·match i with
  | 0 => simp at hy hu; subst hy; subst hu; exact b2
  | 1 => simp at hy hu; subst hy; subst hu; exact b3
  | i + 2 => simp at hy
end
end Go.Q
end

section
/- Every operation that is no call, run, does what the evaluator says. -/
namespace Go.Q
variable [Link]
section
variable {P : Program} {w : World} {X : Nat → Prop} {ι : Nat → Nat} {σ σ' : Sto} {n n' lk : Nat} {ρ : Operand → Value} {ρ' : Opd → V}
theorem optOk_of {lo : Option Operand} {lo' : Option Opd} (h : cOpt lo = some lo') : optOk lo lo' := by
 cases lo with
 | none => simp [cOpt] at h; exact .inl ⟨rfl, h.symm⟩
 | some y =>
   simp only [cOpt, Option.map_eq_some_iff] at h
   obtain ⟨y', hy, rfl⟩ := h
   exact .inr ⟨y, y', rfl, rfl, hy⟩
theorem nilS_of {y : Operand} {x : V} (h : cOpd y = some (.con .nilS)) (hr : Rep w X ι n .nilS (ρ y)) : ρ y = .slice none 0 0 := by
 generalize ρ y = z at *
 cases hr; rfl
theorem nilF_of {y : Operand} (h : cOpd y = some (.con .nilF)) (hr : Rep w X ι n .nilF (ρ y)) : ρ y = .nilFunc := by
 generalize ρ y = z at *
 cases hr; rfl
theorem opdEq_val {l c : Operand} (h : opdEq l c = true) (hρc : ∀ v, ρ (.const v) = v) : ρ c = ρ l := by
 unfold opdEq at h
 split at h
 ·simp at h; subst h; rfl
 ·simp at h; obtain ⟨rfl, rfl⟩ := h; rfl
 ·cases h
theorem op_sound (hw : WF w X ι σ n) (hl : lk ≤ n) (hρ : ∀ (x : Operand) (x' : Opd), cOpd x = some x' → Rep w X ι n (ρ' x') (ρ x)) (hcon : ∀ v, ρ' (.con v) = v) (hρc : ∀ v, ρ (.const v) = v)
 {o : Oper} {ai : AI} (hc : cOp P o = some ai) {v : V} (he : ev ρ' σ n lk ai = some (v, σ', n')) : Good w X ι σ n lk ((execOp ρ o).run P w) v σ' n' := by
 obtain ⟨dst, op, ty, pos, after, guard⟩ := o
 cases op <;> simp only [cOp, reduceCtorEq] at hc
 case move x =>
  simp only [Option.map_eq_some_iff] at hc
  obtain ⟨x', hx, rfl⟩ := hc
  simp only [ev, Option.some.injEq, Prod.mk.injEq] at he
  obtain ⟨rfl, rfl, rfl⟩ := he
  exact good_pure hw rfl (hρ _ _ hx)
 case assign x =>
  simp only [Option.map_eq_some_iff] at hc
  obtain ⟨x', hx, rfl⟩ := hc
  simp only [ev, Option.some.injEq, Prod.mk.injEq] at he
  obtain ⟨rfl, rfl, rfl⟩ := he
  exact good_pure hw rfl (hρ _ _ hx)
 case pick c a b =>
  simp only [Option.bind_eq_bind, Option.bind_eq_some_iff, Option.some.injEq] at hc
  obtain ⟨c', hc', a', ha, b', hb, rfl⟩ := hc
  exact ev_pick hw (hρ _ _ hc') (hρ _ _ ha) (hρ _ _ hb) he
 case alloc t =>
  simp only [Option.bind_eq_bind, Option.bind_eq_some_iff] at hc
  obtain ⟨i, hi, hc⟩ := hc
  split at hc
  ·simp only [Option.some.injEq] at hc; subst hc
   exact ev_alloc hw hl hi he
  ·cases hc
 case box t x =>
  simp only [Option.map_eq_some_iff] at hc
  obtain ⟨x', hx, rfl⟩ := hc
  exact ev_box hw hl (hρ _ _ hx) he
 case build t ps =>
  simp only [Option.bind_eq_bind, Option.bind_eq_some_iff] at hc
  obtain ⟨i, hi, hc⟩ := hc
  split at hc
  ·rename_i fs hd
   simp only [Option.bind_eq_some_iff] at hc
   obtain ⟨pl, hpl, qs, hq, hc⟩ := hc
   split at hc
   ·simp only [Option.some.injEq] at hc; subst hc
    exact ev_build_struct hw hρ hi hd hpl hq he
   ·cases hc
  ·rename_i m e hd
   simp only [Option.bind_eq_some_iff] at hc
   obtain ⟨j, hj, qs, hq, hc⟩ := hc
   split at hc
   ·simp only [Option.some.injEq] at hc; subst hc
    exact ev_build_array hw hρ hi hd hj hq he
   ·cases hc
  ·cases hc
 case buildSlice t len ps =>
  simp only [Option.bind_eq_bind, Option.bind_eq_some_iff] at hc
  obtain ⟨d, hd, hc⟩ := hc
  split at hc
  ·rename_i e
   simp only [Option.bind_eq_some_iff] at hc
   obtain ⟨j, hj, es, hes, hc⟩ := hc
   split at hc
   ·rename_i hcond
    simp only [Option.some.injEq] at hc; subst hc
    simp only [Bool.and_eq_true, beq_iff_eq, decide_eq_true_eq] at hcond
    exact ev_lit hw hl hρ hd hj hes hcond.1.1 hcond.1.2 hcond.2 he
   ·cases hc
  ·cases hc
 case load t x =>
  simp only [Option.bind_eq_bind, Option.bind_eq_some_iff] at hc
  obtain ⟨i, hi, x', hx, hc⟩ := hc
  split at hc
  ·rename_i hcond
   simp only [Option.some.injEq] at hc; subst hc
   simp only [Bool.or_eq_true, beq_iff_eq] at hcond
   exact ev_load hw (hρ _ _ hx) hi hcond he
  ·cases hc
 case store t a x =>
  simp only [Option.bind_eq_bind, Option.bind_eq_some_iff, Option.some.injEq] at hc
  obtain ⟨i, hi, a', ha, x', hx, rfl⟩ := hc
  exact ev_store hw (hρ _ _ ha) (hρ _ _ hx) hi he
 case nilCheck x =>
  simp only [Option.map_eq_some_iff] at hc
  obtain ⟨x', hx, rfl⟩ := hc
  exact ev_nilck hw rfl (hρ _ _ hx) he
 case binOp bop t x y t' =>
  simp only [Option.bind_eq_bind, Option.bind_eq_some_iff] at hc
  obtain ⟨x', hx, y', hy, hc⟩ := hc
  split at hc
  ·rename_i k ht
   simp only [Option.some.injEq] at hc; subst hc
   exact ev_bin hw (hρ _ _ hx) (hρ _ _ hy) he
  ·rename_i ht
   simp only [Option.some.injEq] at hc; subst hc
   exact ev_bin hw (hρ _ _ hx) (hρ _ _ hy) he
  ·rename_i ht
   split at hc <;> simp only [Option.some.injEq, reduceCtorEq] at hc <;> subst hc
   ·exact ev_eqB (neg := false) hw ht (hρ _ _ hx) (hρ _ _ hy) he
   ·exact ev_eqB (neg := true) hw ht (hρ _ _ hx) (hρ _ _ hy) he
  ·rename_i e ht
   split at hc <;> simp only [Option.some.injEq, reduceCtorEq] at hc <;> subst hc
   ·exact ev_eqN (neg := false) hw ht (hρ _ _ hx) (nilS_of (x := .nilS) hy (by have := hρ _ _ hy; rwa [hcon] at this)) he
   ·exact ev_eqN (neg := true) hw ht (hρ _ _ hx) (nilS_of (x := .nilS) hy (by have := hρ _ _ hy; rwa [hcon] at this)) he
  ·rename_i fs ht
   simp only [Option.bind_eq_some_iff] at hc
   obtain ⟨ks, hks, hc⟩ := hc
   split at hc <;> simp only [Option.some.injEq, reduceCtorEq] at hc <;> subst hc
   ·exact ev_eqA (neg := false) hw ht hks (hρ _ _ hx) (hρ _ _ hy) he
   ·exact ev_eqA (neg := true) hw ht hks (hρ _ _ hx) (hρ _ _ hy) he
  ·rename_i m e ht
   simp only [Option.bind_eq_some_iff] at hc
   obtain ⟨ks, hks, hc⟩ := hc
   split at hc <;> simp only [Option.some.injEq, reduceCtorEq] at hc <;> subst hc
   ·exact ev_eqR (neg := false) hw ht hks (hρ _ _ hx) (hρ _ _ hy) he
   ·exact ev_eqR (neg := true) hw ht hks (hρ _ _ hx) (hρ _ _ hy) he
  ·rename_i ps rs b ht
   split at hc <;> simp only [Option.some.injEq, reduceCtorEq] at hc <;> subst hc
   ·exact ev_eqF (neg := false) hw ht (hρ _ _ hx) (nilF_of hy (by have := hρ _ _ hy; rwa [hcon] at this)) he
   ·exact ev_eqF (neg := true) hw ht (hρ _ _ hx) (nilF_of hy (by have := hρ _ _ hy; rwa [hcon] at this)) he
  ·cases hc
 case unOp uop t x =>
  simp only [Option.map_eq_some_iff] at hc
  obtain ⟨x', hx, rfl⟩ := hc
  exact ev_un hw (hρ _ _ hx) he
 case convert s d x =>
  simp only [Option.bind_eq_bind, Option.bind_eq_some_iff] at hc
  obtain ⟨x', hx, hc⟩ := hc
  split at hc
  ·rename_i j k hs hd
   simp only [Option.some.injEq] at hc; subst hc
   exact ev_conv hw hs hd (hρ _ _ hx) he
  ·cases hc
 case makeInterface t x =>
  split at hc
  ·cases hc
  ·cases hc
  ·rename_i h1 h2
   simp only [Option.map_eq_some_iff] at hc
   obtain ⟨x', hx, rfl⟩ := hc
   simp only [ev, Option.some.injEq, Prod.mk.injEq] at he
   obtain ⟨rfl, rfl, rfl⟩ := he
   cases hd : P.underlying t with
   | none => exact absurd hd h2
   | some d =>
     refine good_pure hw (u := .iface t (ρ x)) ?_ (.iface _ _ _ (hρ _ _ hx))
     have : ∀ ms, d ≠ .interface ms := fun ms e => h1 ms (by rw [hd, e])
     simp only [execOp, Instr.makeInterface, Sem.run_bind, run_underlying hd, Result.andThen_ok]
     cases d <;> first | rfl | exact absurd rfl (this _)
 case makeFunc fn first cs =>
  split at hc
  ·rename_i f
   split at hc
   ·rename_i hemp
    simp only [Option.map_eq_some_iff] at hc
    obtain ⟨es, hes, rfl⟩ := hc
    simp only [ev, Option.some.injEq, Prod.mk.injEq] at he
    obtain ⟨rfl, rfl, rfl⟩ := he
    obtain ⟨e1, e2⟩ := cOpds_spec hes hρ
    have hf : first = #[] := by simpa using hemp
    subst hf
    refine good_pure hw (u := .func (.func f) #[] (cs.map ρ)) ?_ (.fn _ _ _ (by simp [e1]) (fun i e u he hu => e2 i e u he (by simpa using hu)))
    simp [execOp, Instr.makeFunc]
   ·split at hc
    ·rename_i hemp
     simp only [Option.map_eq_some_iff] at hc
     obtain ⟨es, hes, rfl⟩ := hc
     simp only [ev, Option.some.injEq, Prod.mk.injEq] at he
     obtain ⟨rfl, rfl, rfl⟩ := he
     obtain ⟨e1, e2⟩ := cOpds_spec hes hρ
     have hf : cs = #[] := by simpa using hemp
     subst hf
     refine good_pure hw (u := .func (.func f) (first.map ρ) #[]) ?_ (.bnd _ _ _ (by simp [e1]) (fun i e u he hu => e2 i e u he (by simpa using hu)))
     simp [execOp, Instr.makeFunc]
    ·cases hc
  ·cases hc
 case makeSlice t l c =>
  simp only [Option.bind_eq_bind, Option.bind_eq_some_iff] at hc
  obtain ⟨d, hd, hc⟩ := hc
  split at hc
  ·rename_i e
   simp only [Option.bind_eq_some_iff] at hc
   obtain ⟨j, hj, hc⟩ := hc
   split at hc
   ·rename_i hcond
    simp only [Bool.and_eq_true] at hcond
    simp only [Option.map_eq_some_iff] at hc
    obtain ⟨l', hl', rfl⟩ := hc
    exact ev_mksl hw hl (hρ _ _ hl') (opdEq_val hcond.2 hρc) hd hj hcond.1 he
   ·cases hc
  ·cases hc
 case slice t x lo hi mx =>
  simp only [Option.bind_eq_bind, Option.bind_eq_some_iff] at hc
  obtain ⟨x', hx, lo', hlo, hi', hhi, hc⟩ := hc
  cases mx with
  | some m =>
    simp only [Option.bind_eq_some_iff] at hc
    obtain ⟨m', hm, hc⟩ := hc
    split at hc
    ·rename_i e h ht
     simp only [Option.map_eq_some_iff] at hc
     obtain ⟨j, hj, rfl⟩ := hc
     cases hi with
     | none => simp [cOpt] at hhi
     | some hi0 =>
       simp only [cOpt, Option.map_eq_some_iff, Option.some.injEq] at hhi
       obtain ⟨h', hh, rfl⟩ := hhi
       exact ev_slice3 hw hρ hx (optOk_of hlo) hh hm ht hj he
    ·cases hc
  | none =>
    simp only at hc
    split at hc
    ·rename_i e ht
     simp only [Option.map_eq_some_iff] at hc
     obtain ⟨j, hj, rfl⟩ := hc
     exact ev_slice hw hρ hx (optOk_of hlo) (optOk_of hhi) ht hj he
    ·rename_i ht
     simp only [Option.some.injEq] at hc; subst hc
     exact ev_sliceS hw hρ hx (optOk_of hlo) (optOk_of hhi) ht he
    ·cases hc
 case fieldAddr s x f =>
  simp only [Option.bind_eq_bind, Option.bind_eq_some_iff] at hc
  obtain ⟨d, hd, hc⟩ := hc
  split at hc
  ·rename_i fs
   simp only [Option.bind_eq_some_iff] at hc
   obtain ⟨g, hg, j, hj, hc⟩ := hc
   split at hc
   ·rename_i h0
    simp only [Option.map_eq_some_iff] at hc
    obtain ⟨x', hx, rfl⟩ := hc
    exact ev_faddr hw (hρ _ _ hx) hd hg hj h0 he
   ·cases hc
  ·cases hc
 case field s x f =>
  simp only [Option.bind_eq_bind, Option.bind_eq_some_iff] at hc
  obtain ⟨d, hd, hc⟩ := hc
  split at hc
  ·rename_i fs
   simp only [Option.bind_eq_some_iff] at hc
   obtain ⟨g, hg, j, hj, hc⟩ := hc
   split at hc
   ·rename_i h1
    simp only [Bool.or_eq_true, beq_iff_eq] at h1
    simp only [Option.map_eq_some_iff] at hc
    obtain ⟨x', hx, rfl⟩ := hc
    exact ev_fld hw (hρ _ _ hx) hd hg hj h1 he
   ·cases hc
  ·cases hc
 case indexAddr t x i =>
  simp only [Option.bind_eq_bind, Option.bind_eq_some_iff] at hc
  obtain ⟨x', hx, i', hi, hc⟩ := hc
  split at hc
  ·rename_i e ht
   simp only [Option.map_eq_some_iff] at hc
   obtain ⟨j, hj, rfl⟩ := hc
   exact ev_iaddr hw (hρ _ _ hx) (hρ _ _ hi) ht hj he
  ·rename_i m e ht
   simp only [Option.map_eq_some_iff] at hc
   obtain ⟨j, hj, rfl⟩ := hc
   exact ev_iaddrA hw (hρ _ _ hx) (hρ _ _ hi) ht hj he
  ·cases hc
 case index t x i =>
  simp only [Option.bind_eq_bind, Option.bind_eq_some_iff] at hc
  obtain ⟨x', hx, i', hi, hc⟩ := hc
  split at hc
  ·rename_i ht
   simp only [Option.some.injEq] at hc; subst hc
   exact ev_idxS hw (hρ _ _ hx) (hρ _ _ hi) ht he
  ·rename_i m e ht
   simp only [Option.bind_eq_some_iff] at hc
   obtain ⟨j, hj, hc⟩ := hc
   split at hc
   ·rename_i h1
    simp only [Bool.or_eq_true, beq_iff_eq] at h1
    simp only [Option.some.injEq] at hc; subst hc
    exact ev_idxA hw (hρ _ _ hx) (hρ _ _ hi) ht hj h1 he
   ·cases hc
  ·cases hc
 case extract x i =>
  simp only [Option.map_eq_some_iff] at hc
  obtain ⟨x', hx, rfl⟩ := hc
  exact ev_ext hw (hρ _ _ hx) he
 case typeAssert x xt t ok =>
  simp only [Option.bind_eq_bind, Option.bind_eq_some_iff] at hc
  obtain ⟨i, hi, x', hx, hc⟩ := hc
  split at hc
  ·cases hc
  ·rename_i hni
   simp only [Option.some.injEq] at hc
   subst hc
   exact ev_tas hw hi (fun m e => hni m e) (hρ _ _ hx) he
 case makeMap t r =>
  split at hc
  ·rename_i kt e ht
   simp only [Option.some.injEq] at hc; subst hc
   exact ev_mkmap hw hl ht (.inl rfl) he
  ·rename_i kt e k m ht
   simp only [Option.some.injEq] at hc; subst hc
   exact ev_mkmap hw hl ht (.inr ⟨k, m, by simp [hρc]⟩) he
  ·cases hc
 case mapUpdate t m k x =>
  simp only [Option.bind_eq_bind, Option.bind_eq_some_iff, Option.some.injEq] at hc
  obtain ⟨⟨kk, z⟩, hkk, m', hm, k', hk, x', hx, rfl⟩ := hc
  exact ev_mupd hw hkk (hρ _ _ hm) (hρ _ _ hk) (hρ _ _ hx) he
 case insert t m k x =>
  simp only [Option.bind_eq_bind, Option.bind_eq_some_iff, Option.some.injEq] at hc
  obtain ⟨⟨kk, z⟩, hkk, m', hm, k', hk, x', hx, rfl⟩ := hc
  exact ev_mupd hw hkk (hρ _ _ hm) (hρ _ _ hk) (hρ _ _ hx) he
 case lookup t m k ok =>
  simp only [Option.bind_eq_bind, Option.bind_eq_some_iff, Option.some.injEq] at hc
  obtain ⟨⟨kk, z⟩, hkk, m', hm, k', hk, rfl⟩ := hc
  exact ev_mget hw hkk (hρ _ _ hm) (hρ _ _ hk) he
 case mapEntry t m k =>
  simp only [Option.bind_eq_bind, Option.bind_eq_some_iff, Option.some.injEq] at hc
  obtain ⟨⟨kk, z⟩, hkk, m', hm, k', hk, rfl⟩ := hc
  exact ev_ment hw hkk (hρ _ _ hm) (hρ _ _ hk) he
 case entryStore t m s x =>
  simp only [Option.bind_eq_bind, Option.bind_eq_some_iff, Option.some.injEq] at hc
  obtain ⟨m', hm, s', hs, x', hx, rfl⟩ := hc
  exact ev_mest hw (hρ _ _ hm) (hρ _ _ hs) (hρ _ _ hx) he
 case range t m =>
  split at hc
  ·rename_i kt e ht
   simp only [Option.map_eq_some_iff] at hc
   obtain ⟨m', hm, rfl⟩ := hc
   exact ev_range hw hl ht (hρ _ _ hm) he
  ·cases hc
 case entry it =>
  simp only [Option.map_eq_some_iff] at hc
  obtain ⟨it', hit, rfl⟩ := hc
  exact ev_entry hw (hρ _ _ hit) he
 case next it b =>
  split at hc
  ·cases hc
  ·simp only [Option.map_eq_some_iff] at hc
   obtain ⟨it', hit, rfl⟩ := hc
   simp [ev] at he
 case call c =>
  obtain ⟨callee, args, argTypes⟩ := c
  split at hc
  ·rename_i hcal
   have hex : execOp ρ ⟨dst, .call ⟨callee, args, argTypes⟩, ty, pos, after, guard⟩ = (do pure (Next.value (← Builtin.delete_ argTypes ty (args.map ρ))) : Sem Next) := by subst hcal; rfl
   rw [hex]
   split at hc
   ·rename_i m k t t2 h1 h2
    have e1 : args = #[m, k] := by apply Array.toList_inj.1; simpa using h1
    have e2 : argTypes = #[t, t2] := by apply Array.toList_inj.1; simpa using h2
    subst e1; subst e2
    simp only [Option.bind_eq_bind, Option.bind_eq_some_iff, Option.some.injEq] at hc
    obtain ⟨⟨kk, z⟩, hkk, m', hm, k', hk, rfl⟩ := hc
    have e3 : Array.map ρ #[m, k] = #[ρ m, ρ k] := by simp
    rw [e3]
    exact ev_mdel hw hkk (hρ _ _ hm) (hρ _ _ hk) he
   ·cases hc
  ·rename_i hcal
   have hex : execOp ρ ⟨dst, .call ⟨callee, args, argTypes⟩, ty, pos, after, guard⟩ = (do pure (Next.value (← Builtin.len_ argTypes ty (args.map ρ))) : Sem Next) := by subst hcal; rfl
   rw [hex]
   split at hc
   ·rename_i x t h1 h2
    have e1 : args = #[x] := by apply Array.toList_inj.1; simpa using h1
    have e2 : argTypes = #[t] := by apply Array.toList_inj.1; simpa using h2
    subst e1; subst e2
    split at hc
    ·rename_i ht
     simp only [Option.map_eq_some_iff] at hc
     obtain ⟨x', hx, rfl⟩ := hc
     have e3 : Array.map ρ #[x] = #[ρ x] := by simp
     rw [e3]
     exact ev_lenS hw ht (hρ _ _ hx) he
    ·rename_i e ht
     simp only [Option.map_eq_some_iff] at hc
     obtain ⟨x', hx, rfl⟩ := hc
     have e3 : Array.map ρ #[x] = #[ρ x] := by simp
     rw [e3]
     exact ev_len hw ht (hρ _ _ hx) he
    ·rename_i kt e ht
     simp only [Option.map_eq_some_iff] at hc
     obtain ⟨x', hx, rfl⟩ := hc
     have e3 : Array.map ρ #[x] = #[ρ x] := by simp
     rw [e3]
     exact ev_mlen hw ht (hρ _ _ hx) he
    ·cases hc
   ·cases hc
  ·rename_i hcal
   have hex : execOp ρ ⟨dst, .call ⟨callee, args, argTypes⟩, ty, pos, after, guard⟩ = (do pure (Next.value (← Builtin.min_ argTypes ty (args.map ρ))) : Sem Next) := by subst hcal; rfl
   rw [hex]
   simp only [Option.map_eq_some_iff] at hc
   obtain ⟨es, hes, rfl⟩ := hc
   obtain ⟨e1, e2⟩ := cOpds_spec hes hρ
   simp only [ev] at he
   split at he
   ·rename_i x ys hxs
    simp only [Option.map_eq_some_iff, Prod.mk.injEq] at he
    obtain ⟨v', hv, rfl, rfl, rfl⟩ := he
    rw [hxs] at e2
    cases hargs : args.toList with
    | nil => have := congrArg List.length hxs; rw [hargs] at e1; simp at this e1; rw [e1] at this; simp at this
    | cons a as =>
      rw [hargs] at e1 e2
      have hlen : ys.length = as.length := by have := congrArg List.length hxs; simp at this e1; omega
      obtain ⟨r, h1, h2⟩ := foldM_min (P := P) (w := w) (X := X) (ι := ι) (n := n) ys (as.map ρ) x v' (ρ a) (by simpa using hlen) (fun i e u he hu => e2 (i + 1) e u (by simpa using he) (by simpa using hu)) (e2 0 x (ρ a) rfl rfl) hv
      refine good_pure hw ?_ h2
      have hm : (args.map ρ).toList = ρ a :: as.map ρ := by simp [hargs]
      simp only [Sem.run_bind, Builtin.min_, hm, h1, Result.andThen_ok, Sem.run_pure]
   ·cases he
  ·rename_i hcal
   have hex : execOp ρ ⟨dst, .call ⟨callee, args, argTypes⟩, ty, pos, after, guard⟩ = (do pure (Next.value (← Builtin.max_ argTypes ty (args.map ρ))) : Sem Next) := by subst hcal; rfl
   rw [hex]
   simp only [Option.map_eq_some_iff] at hc
   obtain ⟨es, hes, rfl⟩ := hc
   obtain ⟨e1, e2⟩ := cOpds_spec hes hρ
   simp only [ev] at he
   split at he
   ·rename_i x ys hxs
    simp only [Option.map_eq_some_iff, Prod.mk.injEq] at he
    obtain ⟨v', hv, rfl, rfl, rfl⟩ := he
    rw [hxs] at e2
    cases hargs : args.toList with
    | nil => have := congrArg List.length hxs; rw [hargs] at e1; simp at this e1; rw [e1] at this; simp at this
    | cons a as =>
      rw [hargs] at e1 e2
      have hlen : ys.length = as.length := by have := congrArg List.length hxs; simp at this e1; omega
      obtain ⟨r, h1, h2⟩ := foldM_max (P := P) (w := w) (X := X) (ι := ι) (n := n) ys (as.map ρ) x v' (ρ a) (by simpa using hlen) (fun i e u he hu => e2 (i + 1) e u (by simpa using he) (by simpa using hu)) (e2 0 x (ρ a) rfl rfl) hv
      refine good_pure hw ?_ h2
      have hm : (args.map ρ).toList = ρ a :: as.map ρ := by simp [hargs]
      simp only [Sem.run_bind, Builtin.max_, hm, h1, Result.andThen_ok, Sem.run_pure]
   ·cases he
  ·rename_i hcal
   have hex : execOp ρ ⟨dst, .call ⟨callee, args, argTypes⟩, ty, pos, after, guard⟩ = (do pure (Next.value (← Builtin.append_ argTypes ty (args.map ρ))) : Sem Next) := by subst hcal; rfl
   rw [hex]
   split at hc
   ·rename_i x y t t' h1 h2
    have e1 : args = #[x, y] := by apply Array.toList_inj.1; simpa using h1
    have e2 : argTypes = #[t, t'] := by apply Array.toList_inj.1; simpa using h2
    subst e1; subst e2
    simp only [Option.bind_eq_bind, Option.bind_eq_some_iff] at hc
    obtain ⟨d, hd, hc⟩ := hc
    split at hc
    ·rename_i e
     simp only [Option.bind_eq_some_iff] at hc
     obtain ⟨d', hd', hc⟩ := hc
     split at hc
     ·rename_i e'
      simp only [Option.bind_eq_some_iff] at hc
      obtain ⟨j, hj, hc⟩ := hc
      split at hc
      ·rename_i hflat
       simp only [Option.bind_eq_some_iff, Option.some.injEq] at hc
       obtain ⟨x', hx, y', hy, rfl⟩ := hc
       have e3 : Array.map ρ #[x, y] = #[ρ x, ρ y] := by simp
       rw [e3]
       exact ev_append hw hl (hρ _ _ hx) (hρ _ _ hy) hd hd' hj hflat he
      ·cases hc
     ·cases hc
    ·cases hc
   ·cases hc
  ·split at hc
   ·simp only [Option.map_eq_some_iff] at hc
    obtain ⟨es, hes, rfl⟩ := hc
    simp [ev] at he
   ·simp only [Option.map_eq_some_iff] at hc
    obtain ⟨es, hes, rfl⟩ := hc
    simp [ev] at he
  ·simp only [Option.bind_eq_bind, Option.bind_eq_some_iff, Option.some.injEq] at hc
   obtain ⟨g', hg, es, hes, rfl⟩ := hc
   simp [ev] at he
  ·simp only [Option.bind_eq_bind, Option.bind_eq_some_iff, Option.some.injEq] at hc
   obtain ⟨g', hg, es, hes, rfl⟩ := hc
   simp [ev] at he
  ·cases hc
end
end Go.Q
end

section
/- The evaluator of code: trees out of the store, calls, and what code comes to, with no program in sight. -/
namespace Go.Q
def DEEP : Nat := 12
def elemM (f : V → Option V) : V → Option V
 | .agg cs => (cs.mapM f).map .agg
 | v => f v
def frz (σ : Sto) : Nat → V → Option V
 | 0, _ => none
 | k + 1, .ref id off len sz => (elems σ sz (.ref id off len sz)).bind fun xs => (xs.mapM (elemM (frz σ k))).map (.sl sz)
 | k + 1, .ptr id sz i j => (rowAt σ id sz i).bind fun e => ((e.cells.drop j).mapM (frz σ k)).map .box
 | k + 1, .agg cs => (cs.mapM (frz σ k)).map .agg
 | k + 1, .tup cs => (cs.mapM (frz σ k)).map .tup
 | k + 1, .fn f cs => (cs.mapM (frz σ k)).map (.fn f)
 | k + 1, .bnd f cs => (cs.mapM (frz σ k)).map (.bnd f)
 | k + 1, .iface t v => (frz σ k v).map (.iface t)
 | _ + 1, .yld _ => none
 | _ + 1, .mp _ => none
 | _ + 1, .it _ => none
 | _ + 1, .own .. => none
 | _ + 1, v => some v
def rch (σ : Sto) : Nat → V → List Nat
 | 0, _ => []
 | k + 1, .ref id off len sz => id :: ((elems σ sz (.ref id off len sz)).getD []).flatMap fun x => x.cells.flatMap (rch σ k)
 | k + 1, .ptr id sz i j => id :: ((rowAt σ id sz i).map fun e => (e.cells.drop j).flatMap (rch σ k)).getD []
 | k + 1, .agg cs => cs.flatMap (rch σ k)
 | k + 1, .tup cs => cs.flatMap (rch σ k)
 | k + 1, .fn _ cs => cs.flatMap (rch σ k)
 | k + 1, .bnd _ cs => cs.flatMap (rch σ k)
 | k + 1, .iface _ v => rch σ k v
 | _ + 1, _ => []
def giv (σ : Sto) : Nat → V → Option V
 | 0, _ => none
 | k + 1, .ref id off len sz => match σ id with
   | some (.row sz' xs) => if sz' = sz ∧ off = 0 ∧ len = xs.length then (xs.mapM (elemM (giv σ k))).map (.own sz) else none
   | _ => none
 | k + 1, .agg cs => (cs.mapM (giv σ k)).map .agg
 | k + 1, .tup cs => (cs.mapM (giv σ k)).map .tup
 | k + 1, .iface t v => (giv σ k v).map (.iface t)
 | _ + 1, .ptr .. => none
 | _ + 1, .fn _ (_ :: _) => none
 | _ + 1, .bnd .. => none
 | _ + 1, .yld _ => none
 | _ + 1, .mp _ => none
 | _ + 1, .it _ => none
 | _ + 1, .own .. => none
 | _ + 1, v => some v
mutual
def flat : V → Bool
 | .sl .. | .box _ | .yld _ | .mp _ | .it _ | .ref .. | .ptr .. | .bnd .. => false
 | .own _ xs => flatL xs
 | .agg xs => flatL xs
 | .tup xs => flatL xs
 | .fn _ xs => flatL xs
 | .iface _ v => flat v
 | _ => true
def flatL : List V → Bool
 | [] => true
 | x :: xs => flat x && flatL xs
end
mutual
def thaw (σ : Sto) (n : Nat) : V → V × Sto × Nat
 | .own sz xs => let r := thawL σ n xs; (.ref r.2.2 0 xs.length sz, upd r.2.1 r.2.2 (some (.row sz r.1)), r.2.2 + 1)
 | .agg xs => let r := thawL σ n xs; (.agg r.1, r.2)
 | .tup xs => let r := thawL σ n xs; (.tup r.1, r.2)
 | .iface t v => let r := thaw σ n v; (.iface t r.1, r.2)
 | v => (v, σ, n)
def thawL (σ : Sto) (n : Nat) : List V → List V × Sto × Nat
 | [] => ([], σ, n)
 | x :: xs => let r := thaw σ n x; let q := thawL r.2.1 r.2.2 xs; (r.1 :: q.1, q.2)
end
inductive Mode where
 | pure | own | raw
 deriving DecidableEq
inductive Res where
 | tmp (t : Nat)
 | cell (t : Nat) (agg : Bool) (sz : Nat)
structure Fn where
 np : Nat
 ntmps : Nat
 res : List Res
 body : AC
abbrev Prim := List V → Sto → Nat → Nat → Option (V × Sto × Nat)
structure Tab where
 fn : Nat → Option Fn
 mode : Nat → Mode
 prim : Nat → Option Prim := fun _ => none
def primE (T : Tab) (f : Nat) (args : List V) (σ : Sto) (n lk : Nat) : Option (V × Sto × Nat) := match T.prim f with
 | some p => p args σ n lk
 | none => none
inductive Job where
 | pure (f : Nat) (args : List V)
 | raw (f : Nat) (args : List V) (σ : Sto) (n lk : Nat)
 | round (l : Nat) (env : Nat → V) (assign body : AC) (σ : Sto) (n lk : Nat)
inductive Out where
 | val (v : V)
 | mem (v : V) (σ : Sto) (n : Nat)
 | fin (e : Ex) (σ : Sto) (n : Nat)
abbrev Calls' := Job → (Out → Prop) → Prop
def dropL (σ : Sto) (D : List Nat) : Sto := fun id => if id ∈ D then none else σ id
def bindPs (env : Nat → V) : List Nat → List V → Nat → V
 | p :: ps, x :: xs => bindPs (fun t => if t = p then x else env t) ps xs
 | _, _ => env
section
variable (T : Tab) (C : Calls')
def callW (fs : Bool) (f : Nat) (args : List V) (σ : Sto) (n lk : Nat) (Q : V → Sto → Nat → Prop) : Prop :=
 match T.mode f with
 | .raw => fs = true ∧ C (.raw f args σ n lk) fun o => match o with | .mem v σ' n' => Q v σ' n' | _ => False
 | m => ∃ ts, args.mapM (frz σ DEEP) = some ts ∧ ∃ r, C (.pure f ts) (fun o => o = .val r) ∧
  ∃ D : List Nat, D = (if flat r then [] else args.flatMap (rch σ DEEP)) ∧ (fs = false → D = []) ∧ (∀ id ∈ D, lk ≤ id) ∧
   Q (thaw (dropL σ D) n r).1 (thaw (dropL σ D) n r).2.1 (thaw (dropL σ D) n r).2.2
def yieldW (l : Nat) (args : List V) (σ : Sto) (n lk : Nat) (Q : V → Sto → Nat → Prop) : Prop :=
 match σ l with
 | some (.loop env ps assign body .ready pend) => args.length = ps.length ∧ lk ≤ l ∧
  C (.round l (bindPs env ps args) assign body σ n lk) fun o => match o with
   | .fin ex σ' n' => ∃ env2 ps2 a2 b2 pend2, σ' l = some (.loop env2 ps2 a2 b2 .busy pend2) ∧
    Q (.bool (ex = .normal)) (upd σ' l (some (.loop env2 ps2 a2 b2 (if ex = .normal then .ready else .done) (if ex = .normal then none else some ex)))) n'
   | _ => False
 | _ => False
def nextW (it : V) (σ : Sto) (n lk : Nat) (Q : V → Sto → Nat → Prop) : Prop :=
 match it with
 | .it id => match σ id with
   | some (.iter m since seen last) => match σ m with
     | some (.map es clk) => lk ≤ id ∧ (seen = [] ∨ es = [] ∨ ∃ e ∈ es, e.2.2 < last) ∧
      (∀ e ∈ es, e.2.2 ∉ seen → Q (.tup [.bool true, e.1, e.2.1]) (upd σ id (some (.iter m since (seen ++ [e.2.2]) clk))) n) ∧
      ((∀ e ∈ es, e.2.2 ∉ seen → since ≤ e.2.2) → Q (.tup [.bool false]) σ n)
     | _ => False
   | _ => False
 | _ => False
def opW (fs : Bool) (ρ : Opd → V) (σ : Sto) (n lk : Nat) (ai : AI) (Q : V → Sto → Nat → Prop) : Prop :=
 match ai with
 | .call f args => callW T C fs f (args.map ρ) σ n lk Q
 | .callv g args => match ρ g with
   | .fn f caps => callW T C fs f (args.map ρ ++ caps) σ n lk Q
   | .bnd f bs => callW T C fs f (bs ++ args.map ρ) σ n lk Q
   | .yld l => fs = true ∧ yieldW C l (args.map ρ) σ n lk Q
   | _ => False
 | .inv x tbl args => fs = true ∧ match invOf σ tbl (ρ x) with
   | some (f, r) => callW T C fs f (r :: args.map ρ) σ n lk Q
   | none => False
 | .next it => fs = true ∧ nextW (ρ it) σ n lk Q
 | .prim f args => match primE T f (args.map ρ) σ n lk with
   | some (v, σ', n') => Q v σ' n'
   | none => False
 | ai => match ev ρ σ n lk ai with
   | some (v, σ', n') => Q v σ' n'
   | none => False
def wants (g : Option (Nat × Bool)) (env : Nat → V) : Bool :=
 match g with
 | none => true
 | some (t, want) => match env t with
   | .bool b => b == want
   | _ => false
def wpR : List AOp → St → (St → Prop) → Prop
 | [], s, Q => Q s
 | o :: ops, s, Q =>
   if wants o.guard s.env then opW T C true s.val s.σ s.n s.lk o.op fun v σ' n' => wpR ops ({ s with σ := σ', n := n' }.put o.dst v) Q
   else wpR ops (s.put o.dst .undef) Q
@[irreducible] def BIG : Nat := 1000000000000
theorem big_le : 1000000000000 ≤ BIG := by unfold BIG; exact Nat.le_refl _
def hideR (σ : Sto) (n0 : Nat) : List Nat → Sto
 | [] => σ
 | r :: rs => fun id => if n0 + BIG * r ≤ id ∧ id < n0 + BIG * r + BIG then none else hideR σ n0 rs id
def hide (σ : Sto) (n0 lab : Nat) : List Nat → Sto
 | [] => σ
 | r :: rs => fun id => if id < lab then hideR σ n0 (r :: rs) id else none
def merge (σ σ' : Sto) (lab : Nat) : Sto := fun id => if lab ≤ id ∧ id < lab + BIG then σ' id else σ id
def inHid (n0 : Nat) (hid : List Nat) (id : Nat) : Prop := ∃ r ∈ hid, n0 + BIG * r ≤ id ∧ id < n0 + BIG * r + BIG
instance (n0 : Nat) (hid : List Nat) (id : Nat) : Decidable (inHid n0 hid id) := inferInstanceAs (Decidable (∃ r ∈ hid, n0 + BIG * r ≤ id ∧ id < n0 + BIG * r + BIG))
def mergeL (σ σ' : Sto) (n0 lo top : Nat) (hid : List Nat) : Sto := fun id => if n0 + BIG * lo ≤ id ∧ id < top ∧ ¬ inHid n0 hid id then σ' id else σ id
def opD (d : DOp) (ρ : Opd → V) (σ : Sto) (n0 lk : Nat) (Q : V → Sto → Prop) : Prop :=
 opW T C false ρ (if d.pure then Sto.empty else if d.wr then σ else hide σ n0 (n0 + BIG * d.rank) d.hid) (n0 + BIG * d.rank)
  (if d.wr && !d.pure then lk else n0 + BIG * d.low.getD d.rank) d.o.op fun v σ' n' =>
   n' ≤ n0 + BIG * d.rank + (if d.lays then BIG else 0) ∧
   Q v (if d.pure then σ else if d.wr then σ' else match d.low with
    | some lo => mergeL σ σ' n0 lo (n0 + BIG * d.rank + (if d.lays then BIG else 0)) d.hid
    | none => if d.lays then merge σ σ' (n0 + BIG * d.rank) else σ)
def wpD (n0 : Nat) : List DOp → St → (St → Prop) → Prop
 | [], s, Q => Q s
 | d :: ds, s, Q =>
   if wants d.o.guard s.env then opD T C d s.val s.σ n0 s.lk fun v σ' => wpD n0 ds ({ s with σ := σ' }.put d.o.dst v) Q
   else wpD n0 ds (s.put d.o.dst .undef) Q
def wpS : List Seg → St → (St → Prop) → Prop
 | [], s, Q => Q s
 | g :: gs, s, Q => wpD T C s.n g.ds s fun s' => wpR T C g.ops { s' with n := s.n + BIG * g.lays } fun s2 => wpS gs s2 Q
def thenW (K : St → Prop) (Q : Ex → St → Prop) : Ex → St → Prop
 | .normal, s => K s
 | ex, s => Q ex s
def blockW (id : Nat) (Q : Ex → St → Prop) : Ex → St → Prop
 | .exit i, s => if i = id then Q .normal s else Q (.exit i) s
 | ex, s => Q ex s
def loopW (B : St → (Ex → St → Prop) → Prop) (s : St) (Q : Ex → St → Prop) : Prop :=
 ∀ I : St → Prop, (∀ s, B s (thenW I Q) → I s) → I s
def rangeW (g : Opd) (ps : List Nat) (assign body : AC) (s : St) (Q : Ex → St → Prop) : Prop :=
 match s.val g with
 | .fn f caps => s.lk ≤ s.n ∧ C (.raw f (.yld s.n :: caps) (upd s.σ s.n (some (.loop s.env ps assign body .ready none))) (s.n + 1) s.lk) fun o => match o with
   | .mem _ σ' n' => match σ' s.n with
     | some (.loop _ _ _ _ st pend) => st ≠ .busy ∧ Q (pend.getD .normal) { s with σ := upd σ' s.n none, n := n' }
     | _ => False
   | _ => False
 | _ => False
def wpC : AC → St → (Ex → St → Prop) → Prop
 | .skip, s, Q => Q .normal s
 | .reg ops, s, Q => wpR T C ops s (Q .normal)
 | .regd segs, s, Q => wpS T C segs s (Q .normal)
 | .seq a b, s, Q => wpC a s (thenW (fun s' => wpC b s' Q) Q)
 | .cond x a b, s, Q => match s.val x with
   | .bool true => wpC a s Q
   | .bool false => wpC b s Q
   | _ => False
 | .block id c, s, Q => wpC c s (blockW id Q)
 | .loop c, s, Q => loopW (wpC c) s Q
 | .rangeF g ps assign body, s, Q => rangeW C g ps assign body s Q
 | .exit id, s, Q => Q (.exit id) s
 | .ret, s, Q => Q .ret s
def resOf (s : St) : Res → Option V
 | .tmp t => some (s.env t)
 | .cell t agg sz => match s.env t with
   | .ptr id sz' i j => (rowAt s.σ id sz' i).bind fun e => loadC agg sz (e.cells.drop j)
   | _ => none
def outOf (s : St) : List Res → Option V
 | [] => some .undef
 | [r] => resOf s r
 | rs => (rs.mapM (resOf s)).map .tup
def envOf (args : List V) : Nat → V := fun t => (args[t]?).getD .undef
def isEnd : Ex → Bool
 | .exit _ => false
 | _ => true
def gids (σ : Sto) : Nat → V → List Nat
 | 0, _ => []
 | k + 1, .ref id off len sz => match σ id with
   | some (.row _ xs) => id :: xs.flatMap fun x => x.cells.flatMap (gids σ k)
   | _ => [id]
 | k + 1, .agg cs => cs.flatMap (gids σ k)
 | k + 1, .tup cs => cs.flatMap (gids σ k)
 | k + 1, .iface _ v => gids σ k v
 | _ + 1, _ => []
def back (m : Mode) (σ : Sto) (v : V) (r : V) : Prop :=
 match m with
 | .own => giv σ DEEP v = some r ∧ (gids σ DEEP v).Nodup
 | _ => frz σ DEEP v = some r
def jobW : Job → (Out → Prop) → Prop
 | .pure f args, Q => ∃ fn, T.fn f = some fn ∧ args.length = fn.np ∧ T.mode f ≠ .raw ∧
  wpC T C fn.body ⟨envOf args, Sto.empty, 0, 0⟩ fun ex s => isEnd ex = true ∧ ∃ v, outOf s fn.res = some v ∧ ∃ r, back (T.mode f) s.σ v r ∧ Q (.val r)
 | .raw f args σ n lk, Q => ∃ fn, T.fn f = some fn ∧ args.length = fn.np ∧
  wpC T C fn.body ⟨envOf args, σ, n, lk⟩ fun ex s => isEnd ex = true ∧ ∃ v, outOf s fn.res = some v ∧ Q (.mem v s.σ s.n)
 | .round l env assign body σ n lk, Q => wpC T C assign ⟨env, σ, n, lk⟩ fun ex s => ex = .normal ∧ ∃ env' ps a b pend, s.σ l = some (.loop env' ps a b .ready pend) ∧
  wpC T C body { s with σ := upd s.σ l (some (.loop env' ps a b .busy pend)) } fun ex s' => (∃ env2 ps2 a2 b2 pend2, s'.σ l = some (.loop env2 ps2 a2 b2 .busy pend2)) ∧ Q (.fin ex s'.σ s'.n)
def jobD (j : Job) (Q : Out → Prop) : Prop := ∃ o, Q o ∧ jobW T C j (fun o' => o' = o)
end
def MonoC (C : Calls') : Prop := ∀ j Q Q', (∀ o, Q o → Q' o) → C j Q → C j Q'
def run (T : Tab) : Calls' := fun j Q => ∀ C : Calls', MonoC C → (∀ j Q, jobD T C j Q → C j Q) → C j Q
section
variable {T : Tab} {C C' : Calls'}
theorem callW_mono (hC : ∀ j Q, C j Q → C' j Q) (hm : MonoC C') {fs : Bool} {f : Nat} {args : List V} {σ : Sto} {n lk : Nat} {Q Q' : V → Sto → Nat → Prop}
 (hQ : ∀ v σ n, Q v σ n → Q' v σ n) (h : callW T C fs f args σ n lk Q) : callW T C' fs f args σ n lk Q' := by
 unfold callW at *
 cases hmode : T.mode f <;> simp only [hmode] at h ⊢
 case raw => exact ⟨h.1, hm _ _ _ (fun o ho => by cases o <;> first | exact hQ _ _ _ ho | exact ho) (hC _ _ h.2)⟩
 all_goals
  obtain ⟨ts, h1, r, h2, D, h3, h4, h5, h6⟩ := h
  exact ⟨ts, h1, r, hC _ _ h2, D, h3, h4, h5, hQ _ _ _ h6⟩
theorem yieldW_mono (hC : ∀ j Q, C j Q → C' j Q) (hm : MonoC C') {l : Nat} {args : List V} {σ : Sto} {n lk : Nat} {Q Q' : V → Sto → Nat → Prop}
 (hQ : ∀ v σ n, Q v σ n → Q' v σ n) (h : yieldW C l args σ n lk Q) : yieldW C' l args σ n lk Q' := by
 unfold yieldW at *
 split at h
 ·exact ⟨h.1, h.2.1, hm _ _ _ (fun o ho => by cases o <;> first | (obtain ⟨a1, a2, a3, a4, a5, h1, h2⟩ := ho; exact ⟨a1, a2, a3, a4, a5, h1, hQ _ _ _ h2⟩) | exact ho) (hC _ _ h.2.2)⟩
 ·exact h
theorem nextW_mono {it : V} {σ : Sto} {n lk : Nat} {Q Q' : V → Sto → Nat → Prop} (hQ : ∀ v σ n, Q v σ n → Q' v σ n) (h : nextW it σ n lk Q) : nextW it σ n lk Q' := by
 unfold nextW at *
 split at h <;> try exact h.elim
 split at h <;> try exact h.elim
 split at h <;> try exact h.elim
 exact ⟨h.1, h.2.1, fun e he hs => hQ _ _ _ (h.2.2.1 e he hs), fun hh => hQ _ _ _ (h.2.2.2 hh)⟩
theorem opW_mono (hC : ∀ j Q, C j Q → C' j Q) (hm : MonoC C') {fs : Bool} {ρ : Opd → V} {σ : Sto} {n lk : Nat} {ai : AI} {Q Q' : V → Sto → Nat → Prop}
 (hQ : ∀ v σ n, Q v σ n → Q' v σ n) (h : opW T C fs ρ σ n lk ai Q) : opW T C' fs ρ σ n lk ai Q' := by
 unfold opW at *
 split at h
 ·exact callW_mono hC hm hQ h
 ·split at h
  ·exact callW_mono hC hm hQ h
  ·exact callW_mono hC hm hQ h
  ·exact ⟨h.1, yieldW_mono hC hm hQ h.2⟩
  ·exact h
 ·refine ⟨h.1, ?_⟩
  have h := h.2
  split at h
  ·exact callW_mono hC hm hQ h
  ·exact h
 ·exact ⟨h.1, nextW_mono hQ h.2⟩
 ·split at h
  ·exact hQ _ _ _ h
  ·exact h
 ·split at h
  ·rename_i h'; exact hQ _ _ _ h
  ·exact h
theorem wpR_mono (hC : ∀ j Q, C j Q → C' j Q) (hm : MonoC C') : ∀ (ops : List AOp) (s : St) (Q Q' : St → Prop), (∀ s, Q s → Q' s) → wpR T C ops s Q → wpR T C' ops s Q'
 | [], s, Q, Q', hQ, h => hQ _ h
 | o :: ops, s, Q, Q', hQ, h => by
   simp only [wpR] at *
   split at h <;> rename_i hw <;> simp only [hw, if_true, if_false, Bool.false_eq_true]
   ·exact opW_mono hC hm (fun v σ n hh => wpR_mono hC hm ops _ _ _ hQ hh) h
   ·exact wpR_mono hC hm ops _ _ _ hQ h
theorem opD_mono (hC : ∀ j Q, C j Q → C' j Q) (hm : MonoC C') {d : DOp} {ρ : Opd → V} {σ : Sto} {n lk : Nat} {Q Q' : V → Sto → Prop}
 (hQ : ∀ v σ, Q v σ → Q' v σ) (h : opD T C d ρ σ n lk Q) : opD T C' d ρ σ n lk Q' :=
 opW_mono hC hm (fun v _ _ hh => ⟨hh.1, hQ _ _ hh.2⟩) h
theorem wpD_mono (hC : ∀ j Q, C j Q → C' j Q) (hm : MonoC C') (n0 : Nat) : ∀ (ops : List DOp) (s : St) (Q Q' : St → Prop), (∀ s, Q s → Q' s) → wpD T C n0 ops s Q → wpD T C' n0 ops s Q'
 | [], s, Q, Q', hQ, h => hQ _ h
 | o :: ops, s, Q, Q', hQ, h => by
   simp only [wpD] at *
   split at h <;> rename_i hw <;> simp only [hw, if_true, if_false, Bool.false_eq_true]
   ·exact opD_mono hC hm (fun v σ hh => wpD_mono hC hm n0 ops _ _ _ hQ hh) h
   ·exact wpD_mono hC hm n0 ops _ _ _ hQ h
theorem wpS_mono (hC : ∀ j Q, C j Q → C' j Q) (hm : MonoC C') : ∀ (segs : List Seg) (s : St) (Q Q' : St → Prop), (∀ s, Q s → Q' s) → wpS T C segs s Q → wpS T C' segs s Q'
 | [], s, Q, Q', hQ, h => hQ _ h
 | g :: gs, s, Q, Q', hQ, h => wpD_mono hC hm s.n g.ds s _ _ (fun s' hh => wpR_mono hC hm g.ops _ _ _ (fun s2 hk => wpS_mono hC hm gs s2 _ _ hQ hk) hh) h
theorem wpC_mono (hC : ∀ j Q, C j Q → C' j Q) (hm : MonoC C') : ∀ (c : AC) (s : St) (Q Q' : Ex → St → Prop), (∀ e s, Q e s → Q' e s) → wpC T C c s Q → wpC T C' c s Q'
 | .skip, s, Q, Q', hQ, h => hQ _ _ h
 | .reg ops, s, Q, Q', hQ, h => wpR_mono hC hm ops s _ _ (hQ .normal) h
 | .regd segs, s, Q, Q', hQ, h => wpS_mono hC hm segs s _ _ (hQ .normal) h
 | .seq a b, s, Q, Q', hQ, h => by
   simp only [wpC] at *
   refine wpC_mono hC hm a s _ _ (fun e s' hh => ?_) h
   cases e <;> simp only [thenW] at *
   ·exact wpC_mono hC hm b s' _ _ hQ hh
   ·exact hQ _ _ hh
   ·exact hQ _ _ hh
 | .cond x a b, s, Q, Q', hQ, h => by
   simp only [wpC] at *
   split at h
   ·rename_i hx; exact wpC_mono hC hm a s _ _ hQ h
   ·rename_i hx; exact wpC_mono hC hm b s _ _ hQ h
   ·exact h.elim
 | .block id c, s, Q, Q', hQ, h => by
   simp only [wpC] at *
   refine wpC_mono hC hm c s _ _ (fun e s' hh => ?_) h
   cases e <;> simp only [blockW] at *
   ·exact hQ _ _ hh
   ·split at hh <;> rename_i hi <;> simp only [hi, if_true, if_false]
    ·exact hQ _ _ hh
    ·exact hQ _ _ hh
   ·exact hQ _ _ hh
 | .loop c, s, Q, Q', hQ, h => by
   simp only [wpC] at *
   intro I hI
   refine h I (fun s' hh => hI s' (wpC_mono hC hm c s' _ _ (fun e s'' hk => ?_) hh))
   cases e <;> simp only [thenW] at *
   ·exact hk
   ·exact hQ _ _ hk
   ·exact hQ _ _ hk
 | .rangeF g ps assign body, s, Q, Q', hQ, h => by
   simp only [wpC, rangeW] at *
   split at h
   ·refine ⟨h.1, hm _ _ _ (fun o ho => ?_) (hC _ _ h.2)⟩
    cases o <;> try exact ho
    rename_i v σ' n'
    simp only at ho ⊢
    split at ho
    ·exact ⟨ho.1, hQ _ _ ho.2⟩
    ·exact ho
   ·exact h
 | .exit id, s, Q, Q', hQ, h => hQ _ _ h
 | .ret, s, Q, Q', hQ, h => hQ _ _ h
theorem jobW_mono (hC : ∀ j Q, C j Q → C' j Q) (hm : MonoC C') {j : Job} {Q Q' : Out → Prop} (hQ : ∀ o, Q o → Q' o) (h : jobW T C j Q) : jobW T C' j Q' := by
 cases j <;> simp only [jobW] at *
 ·obtain ⟨fn, h1, h2, h3, h⟩ := h
  exact ⟨fn, h1, h2, h3, wpC_mono hC hm _ _ _ _ (fun e s ⟨a, v, b, r, c, d⟩ => ⟨a, v, b, r, c, hQ _ d⟩) h⟩
 ·obtain ⟨fn, h1, h2, h⟩ := h
  exact ⟨fn, h1, h2, wpC_mono hC hm _ _ _ _ (fun e s ⟨a, v, b, d⟩ => ⟨a, v, b, hQ _ d⟩) h⟩
 ·exact wpC_mono hC hm _ _ _ _ (fun e s ⟨a, env', ps, x, y, pend, b, d⟩ => ⟨a, env', ps, x, y, pend, b, wpC_mono hC hm _ _ _ _ (fun e s hh => ⟨hh.1, hQ _ hh.2⟩) d⟩) h
theorem jobD_mono (hC : ∀ j Q, C j Q → C' j Q) (hm : MonoC C') {j : Job} {Q Q' : Out → Prop} (hQ : ∀ o, Q o → Q' o) (h : jobD T C j Q) : jobD T C' j Q' := by
 obtain ⟨o, h1, h2⟩ := h
 exact ⟨o, hQ o h1, jobW_mono hC hm (fun _ e => e) h2⟩
theorem jobD_W (hm : MonoC C) {j : Job} {Q : Out → Prop} (h : jobD T C j Q) : jobW T C j Q := by
 obtain ⟨o, h1, h2⟩ := h
 exact jobW_mono (fun _ _ x => x) hm (fun o' e => by rw [e]; exact h1) h2
theorem run_mono : MonoC (run T) := fun j Q Q' hQ h C hm hC => hm j Q Q' hQ (h C hm hC)
theorem run_stepD {j : Job} {Q : Out → Prop} (h : jobD T (run T) j Q) : run T j Q := fun C hm hC =>
 hC j Q (jobD_mono (fun j Q hh => hh C hm hC) hm (fun _ ho => ho) h)
theorem loopW_step {B : St → (Ex → St → Prop) → Prop} (hB : ∀ s Q Q', (∀ e s, Q e s → Q' e s) → B s Q → B s Q') {s : St} {Q : Ex → St → Prop}
 (h : B s (thenW (fun s' => loopW B s' Q) Q)) : loopW B s Q := fun I hI =>
 hI s (hB s _ _ (fun e s' hh => by cases e <;> simp only [thenW] at *; exact hh I hI; exact hh; exact hh) h)
end
end Go.Q
end

section
/- The next entry of a map, whichever the machine takes, is one that the evaluator speaks of. -/
namespace Go.Q
variable [Link]
section
variable {P : Program} {w : World} {X : Nat → Prop} {ι : Nat → Nat} {σ σ' : Sto} {n n' lk : Nat} {ρ : Operand → Value} {ρ' : Opd → V}
theorem run_pick {k : Nat} (hk : 0 < k) : ∃ d c, c < k ∧ (choose (.mapNext k)).run P w = .ok c { w with drawn := d } := by
 rw [run_choose]
 split
 ·exact ⟨w.drawn, 0, hk, rfl⟩
 ·exact ⟨w.drawn + 1, _, Nat.mod_lt _ hk, rfl⟩
theorem wf_drawn (hw : WF w X ι σ n) (d : Nat) : WF { w with drawn := d } X ι σ n :=
 hw.move (Nat.le_refl _) (fun _ _ => rfl) (fun _ _ => rfl) (fun _ _ => Iff.rfl) (Nat.le_refl _) hw.xlt
theorem next_good (hw : WF w X ι σ n) {it : Operand} {it' : Opd} {ty : TypeId} (hit : Rep w X ι n (ρ' it') (ρ it)) {Q : V → Sto → Nat → Prop} (h : nextW (ρ' it') σ n lk Q) :
 ∃ v σ' n', Q v σ' n' ∧ Good w X ι σ n lk (((do pure (.value (← Instr.next (ρ it) false ty)) : Sem Next)).run P w) v σ' n' := by
 unfold nextW at h
 split at h <;> try exact h.elim
 rename_i id hv
 split at h <;> try exact h.elim
 rename_i m since seen last hs
 split at h <;> try exact h.elim
 rename_i es clk hm
 obtain ⟨hl, hg, h1, h2⟩ := h
 rw [hv] at hit
 generalize ρ it = u at hit
 cases hit
 obtain ⟨i1, i0, i2⟩ := hw.mi id _ hs
 obtain ⟨mes, a1, a2, a3⟩ := hw.mi m _ hm
 let left := mes.filter fun e => !seen.toArray.contains e.born
 let old := left.filter (fun e => e.born < since)
 let new := left.filter (fun e => e.born ≥ since)
 let cs : Array (Option MapEntry) := (if old.isEmpty then #[none] else #[]) ++ (old ++ new).map some
 have hpos : 0 < cs.size := by
  show 0 < ((if old.isEmpty then #[none] else #[]) ++ (old ++ new).map some : Array (Option MapEntry)).size
  by_cases ho : old.isEmpty
  ·simp [ho]; omega
  ·have : 0 < old.size := by simpa [Array.isEmpty_iff_size_eq_zero, Nat.pos_iff_ne_zero] using ho
   simp [ho]; omega
 obtain ⟨d, c, hc, hrun⟩ := run_pick (P := P) (w := w) hpos
 have hguard : (!seen.toArray.isEmpty && !mes.isEmpty && mes.all (·.born ≥ last)) = false := by
  rcases hg with rfl | rfl | ⟨e, he, hlt⟩
  ·simp
  ·have : mes = #[] := Array.eq_empty_of_size_eq_zero (by simpa using a2)
   subst this; simp
  ·obtain ⟨j, hj, hje⟩ := List.getElem_of_mem he
   have hjm : j < mes.size := by omega
   have hb := (a3 j e mes[j] (by rw [List.getElem?_eq_getElem hj, hje]) (Array.getElem?_eq_getElem hjm)).1
   have : (mes.all (·.born ≥ last)) = false := by
    rw [Bool.eq_false_iff]
    intro hall
    rw [Array.all_eq_true] at hall
    have := hall j hjm
    simp only [ge_iff_le, decide_eq_true_eq] at this
    omega
   simp [this]
 have hmemL : ∀ e ∈ left, ∃ x ∈ es, x.2.2 = e.born ∧ e.born ∉ seen ∧ Rep w X ι n x.1 e.key ∧ Rep w X ι n x.2.1 e.val := by
  intro e he
  have he2 := Array.mem_filter.1 he
  obtain ⟨j, hj, hje⟩ := Array.getElem_of_mem he2.1
  have hjm : j < es.length := by omega
  obtain ⟨b1, b2, b3⟩ := a3 j es[j] e (List.getElem?_eq_getElem hjm) (by rw [Array.getElem?_eq_getElem hj, hje])
  exact ⟨es[j], List.getElem_mem hjm, b1.symm, by simpa using he2.2, b2, b3⟩
 have hLmem : ∀ x ∈ es, x.2.2 ∉ seen → ∃ e ∈ left, e.born = x.2.2 := by
  intro x hx hsn
  obtain ⟨j, hj, hje⟩ := List.getElem_of_mem hx
  have hjm : j < mes.size := by omega
  have b1 := (a3 j x mes[j] (by rw [List.getElem?_eq_getElem hj, hje]) (Array.getElem?_eq_getElem hjm)).1
  exact ⟨mes[j], Array.mem_filter.2 ⟨Array.getElem_mem hjm, by simpa [b1] using hsn⟩, b1⟩
 have hrunN : (Instr.next (.pointer (some ⟨ι id, 0, none⟩)) false ty).run P w = (match cs[c]? with
  | some (some e) => .ok (.tuple #[.bool true, e.key, e.val]) (putOb { w with drawn := d } (ι id) (.mapIter (some (ι m)) since (seen.toArray.push e.born) clk))
  | _ => .ok (.tuple #[.bool false]) { w with drawn := d }) := by
  have i2' : ({ w with drawn := d } : World).heap[ι id]? = some (.mapIter (some (ι m)) since seen.toArray last) := i2
  have hset := fun o' => run_setO (P := P) (w := { w with drawn := d }) (o' := o') i2'
  simp only [Instr.next, Sem.run_bind, run_getO i2, Result.andThen_ok, run_getO a1, hguard, Bool.false_eq_true, if_false]
  rw [show (choose (.mapNext _)).run P w = _ from hrun]
  simp only [Result.andThen_ok]
  show Sem.run P (match cs[c]? with | some (some e) => _ | some none => _ | none => _) _ = _
  have hcc : cs[c]? = some cs[c] := Array.getElem?_eq_getElem hc
  rw [hcc]
  cases hcs : cs[c] with
  | none => simp
  | some e => simp [Sem.run_bind, hset]
 have hcc : cs[c]? = some cs[c] := Array.getElem?_eq_getElem hc
 have hcmem : cs[c] ∈ cs := Array.getElem_mem hc
 rw [hcc] at hrunN
 have hmem2 : (cs[c] = none ∧ old.isEmpty = true) ∨ ∃ e ∈ left, cs[c] = some e := by
  have hcm : cs[c] ∈ ((if old.isEmpty then #[none] else #[]) ++ (old ++ new).map some : Array (Option MapEntry)) := hcmem
  rcases Array.mem_append.1 hcm with hx | hx
  ·split at hx
   ·rename_i ho
    exact .inl ⟨by simpa using hx, ho⟩
   ·simp at hx
  ·obtain ⟨e, he, hee⟩ := Array.mem_map.1 hx
   refine .inr ⟨e, ?_, hee.symm⟩
   rcases Array.mem_append.1 he with he | he
   ·exact (Array.mem_filter.1 he).1
   ·exact (Array.mem_filter.1 he).1
 rcases hmem2 with ⟨hn, ho⟩ | ⟨e, he, hn⟩
 ·rw [hn] at hrunN
  refine ⟨_, _, _, h2 (fun x hx hsn => ?_), { w with drawn := d }, X, ι, .tuple #[.bool false], .inl (by simp only [Sem.run_bind, hrunN, Result.andThen_ok, Sem.run_pure]), ?_, wf_drawn hw d, Ext.draw hw.xlt d⟩
  ·obtain ⟨e, he, hb⟩ := hLmem x hx hsn
   rcases Nat.lt_or_ge x.2.2 since with hlt | hge
   ·have : e ∈ old := Array.mem_filter.2 ⟨he, by simpa [hb] using hlt⟩
    rw [Array.isEmpty_iff.1 ho] at this
    simp at this
   ·exact hge
  ·refine .tup _ _ rfl (fun i e u he hu => ?_)
   match i with
   | 0 => simp at he hu; subst he; subst hu; exact .bool _
   | i + 1 => simp at he
 ·rw [hn] at hrunN
  obtain ⟨x, hx, hb, hsn, hk, hva⟩ := hmemL e he
  have hw1 := wf_drawn hw d
  have i2' : ({ w with drawn := d } : World).heap[ι id]? = some (.mapIter (some (ι m)) since seen.toArray last) := i2
  have hlt := (Array.getElem?_eq_some_iff.1 i2').1
  obtain ⟨wf, ex⟩ := set_obj (lk := lk) (o' := .iter m since (seen ++ [x.2.2]) clk) (ob' := .mapIter (some (ι m)) since (seen.toArray.push e.born) clk) hw1 hs hl rfl i2'
   ⟨(fun _ _ _ e => by cases e), (fun _ e => by cases e)⟩ ⟨i1, by simpa using i0, by rw [putOb_same hlt, hb]; simp⟩
  have ex2 := (Ext.draw (lk := lk) (ι := ι) (σ := σ) (n := n) hw.xlt d).trans ex
  refine ⟨_, _, _, h1 x hx (by rw [hb]; exact hsn), _, X, ι, .tuple #[.bool true, e.key, e.val], .inl (by simp only [Sem.run_bind, hrunN, Result.andThen_ok, Sem.run_pure]), ?_, wf, ex2⟩
  refine .tup _ _ rfl (fun i y u hy hu => ?_)
  match i with
  | 0 => simp at hy hu; subst hy; subst hu; exact .bool _
  | 1 => simp at hy hu; subst hy; subst hu; exact hk.ext hw ex2
  | 2 => simp at hy hu; subst hy; subst hu; exact hva.ext hw ex2
  | i + 3 => simp at hy
end
end Go.Q
end

section
/- Values read out of the store as trees, and rows handed over: they stand. -/
namespace Go.Q
variable [Link]
theorem mapM_get' {α β : Type} (f : α → Option β) : ∀ (l : List α) (m : List β), l.mapM f = some m → l.length = m.length ∧ ∀ (i : Nat) (a : α) (b : β), l[i]? = some a → m[i]? = some b → f a = some b
 | [], m, h => by simp at h; subst h; simp
 | a :: l, m, h => by
   simp only [List.mapM_cons, Option.pure_def, Option.bind_eq_bind, Option.bind_eq_some_iff, Option.some.injEq] at h
   obtain ⟨b, hb, m', hm, rfl⟩ := h
   obtain ⟨h1, h2⟩ := mapM_get' f l m' hm
   refine ⟨by simp [h1], fun i a' b' ha hb' => ?_⟩
   cases i with
   | zero => simp at ha hb'; subst ha; subst hb'; exact hb
   | succ i => exact h2 i a' b' (by simpa using ha) (by simpa using hb')
theorem mapM_back {α β : Type} {f : α → Option β} {l : List α} {m : List β} (h : l.mapM f = some m) {i : Nat} {b : β} (hb : m[i]? = some b) :
 ∃ a, l[i]? = some a ∧ f a = some b := by
 obtain ⟨h1, h2⟩ := mapM_get' f l m h
 have hi : i < m.length := (List.getElem?_eq_some_iff.1 hb).1
 exact ⟨l[i], List.getElem?_eq_getElem (by omega), h2 i _ _ (List.getElem?_eq_getElem (by omega)) hb⟩
theorem not_agg_cells {v : V} (h : ∀ cs, v ≠ .agg cs) : v.cells = [v] := by
 cases v <;> first | rfl | exact absurd rfl (h _)
theorem one_cells {v : V} (h : v.one = true) : v.cells = [v] := by
 cases v <;> first | rfl | simp [V.one] at h
theorem elemM_spec {f : V → Option V} (hf : ∀ v t, f v = some t → v.one = true → t.one = true) {x y : V} (h : elemM f x = some y) (h1 : x.cells.all V.one = true) :
 y.cells.length = x.cells.length ∧ y.cells.all V.one = true ∧ ∀ (j : Nat) (e' : V), y.cells[j]? = some e' → ∃ e, x.cells[j]? = some e ∧ f e = some e' := by
 unfold elemM at h
 split at h
 ·rename_i cs
  simp only [Option.map_eq_some_iff] at h
  obtain ⟨cs', hm, rfl⟩ := h
  refine ⟨(mapM_get' f cs cs' hm).1.symm, ?_, fun j e' he => mapM_back hm he⟩
  rw [List.all_eq_true]
  intro e' he'
  obtain ⟨i, hi, rfl⟩ := List.getElem_of_mem he'
  obtain ⟨e, he, hfe⟩ := mapM_back hm (List.getElem?_eq_getElem hi)
  exact hf _ _ hfe (List.all_eq_true.1 h1 e (List.mem_of_getElem? he))
 ·rename_i hx
  have hc := not_agg_cells hx
  rw [hc] at h1 ⊢
  have hxo : x.one = true := by simpa using h1
  have hyo := hf _ _ h hxo
  rw [one_cells hyo]
  refine ⟨rfl, by simpa using hyo, fun j e' he => ?_⟩
  cases j with
  | zero => simp at he; subst he; exact ⟨x, rfl, h⟩
  | succ j => simp at he
theorem frz_one {σ : Sto} {k : Nat} {v t : V} (h : frz σ k v = some t) (h1 : v.one = true) : t.one = true := by
 cases k with
 | zero => simp [frz] at h
 | succ k =>
   cases v <;> simp only [frz, Option.some.injEq, Option.map_eq_some_iff, Option.bind_eq_some_iff, reduceCtorEq] at h <;> (try simp [V.one] at h1) <;>
    first
     | (subst h; rfl)
     | (obtain ⟨_, _, _, _, rfl⟩ := h; rfl)
     | (obtain ⟨_, _, rfl⟩ := h; rfl)
section
variable {w w' : World} {X X' : Nat → Prop} {ι ι' : Nat → Nat} {σ σ' : Sto} {n n' lk : Nat}
def cutX (X : Nat → Prop) (ι : Nat → Nat) (σ : Sto) (D : List Nat) : Nat → Prop := fun b => X b ∧ ∀ id ∈ D, σ id ≠ none → ι id ≠ b
theorem Rep.tree {v : V} {u : Value} (h : Rep w X ι n v u) (hx : ∀ b, X' b → X b)
 (ht : (∃ sz xs, v = .sl sz xs) ∨ (∃ cs, v = .box cs)) : Rep w X' ι' n' v u := by
 cases h <;> simp at ht
 case slE sz c a => exact .slE sz c a
 case sl sz xs b o c u hc hX hb hs hm hr =>
  exact .sl sz xs b o c u hc (fun h => hX (hx _ h)) hb hs hm (fun i x j e h1 h2 =>
   (hr i x j e h1 h2).move (Nat.le_refl _) (fun _ _ _ => rfl) (fun _ c _ _ h => ⟨c, h, rfl⟩) (fun id h => by omega) (fun b _ h => hx b h) (Nat.le_refl _))
 case box cs b o u hX hb h1 hm hr =>
  exact .box cs b o u (fun h => hX (hx _ h)) hb h1 hm (fun j e h1 =>
   (hr j e h1).move (Nat.le_refl _) (fun _ _ _ => rfl) (fun _ c _ _ h => ⟨c, h, rfl⟩) (fun id h => by omega) (fun b _ h => hx b h) (Nat.le_refl _))
theorem elems_ref {id off len sz : Nat} {xs : List V} (h : elems σ sz (.ref id off len sz) = some xs) :
 ∃ ys, σ id = some (.row sz ys) ∧ off + len ≤ ys.length ∧ xs = (ys.drop off).take len ∧ xs.length = len ∧ ∀ (i : Nat) (x : V), xs[i]? = some x → ys[off + i]? = some x := by
 simp only [elems] at h
 split at h
 ·rename_i sz'' ys hid
  split at h
  ·rename_i hc
   obtain ⟨_, rfl, hle⟩ := hc
   simp only [Option.some.injEq] at h
   subst h
   refine ⟨ys, hid, hle, rfl, by simp; omega, fun i x hx => ?_⟩
   rw [List.getElem?_take] at hx
   split at hx
   ·rwa [List.getElem?_drop] at hx
   ·cases hx
  ·cases h
 ·cases h
theorem rowAt_spec {id sz i : Nat} {e : V} (h : rowAt σ id sz i = some e) : ∃ ys, σ id = some (.row sz ys) ∧ ys[i]? = some e := by
 unfold rowAt at h
 split at h
 ·rename_i sz' ys hid
  split at h
  ·rename_i hs; subst hs; exact ⟨ys, hid, h⟩
  ·cases h
 ·cases h
theorem frz_rep (hw : WF w X ι σ n) {D : List Nat} : ∀ (k : Nat) (v t : V) (u : Value), frz σ k v = some t → Rep w X ι n v u → (∀ id ∈ rch σ k v, id ∈ D) →
 Rep w (cutX X ι σ D) ι' n' t u := by
 intro k
 induction k generalizing n' ι' with
 | zero => intro v t u h; simp [frz] at h
 | succ k ih =>
   intro v t u h hr hD
   have hsub : ∀ b, cutX X ι σ D b → X b := fun b h => h.1
   cases hr with
   | int k m => simp [frz] at h; subst h; exact .int k m
   | bool b => simp [frz] at h; subst h; exact .bool b
   | str s => simp [frz] at h; subst h; exact .str s
   | nilS => simp [frz] at h; subst h; exact .nilS
   | nilP => simp [frz] at h; subst h; exact .nilP
   | nilF => simp [frz] at h; subst h; exact .nilF
   | nilI => simp [frz] at h; subst h; exact .nilI
   | nilM => simp [frz] at h; subst h; exact .nilM
   | mp id hid => simp [frz] at h
   | it id hid => simp [frz] at h
   | undef => simp [frz] at h; subst h; exact .undef
   | yld l hid => simp [frz] at h
   | slE sz c a => simp [frz] at h; subst h; exact .slE sz c a
   | sl sz xs b o c u hc hX hb hs hm hr =>
     simp [frz] at h; subst h
     exact (Rep.sl (n := n) sz xs b o c u hc hX hb hs hm hr).tree hsub (.inl ⟨_, _, rfl⟩)
   | box cs b o u hX hb h1 hm hr =>
     simp [frz] at h; subst h
     exact (Rep.box (n := n) cs b o u hX hb h1 hm hr).tree hsub (.inr ⟨_, rfl⟩)
   | agg cs us hl hr =>
     simp only [frz, Option.map_eq_some_iff] at h
     obtain ⟨ts, hm, rfl⟩ := h
     refine .agg _ _ ((mapM_get' _ _ _ hm).1.symm.trans hl) (fun i e u he hu => ?_)
     obtain ⟨e0, he0, hf⟩ := mapM_back hm he
     exact ih e0 e u hf (hr i e0 u he0 hu) (fun id hid => hD id (by simp only [rch, List.mem_flatMap]; exact ⟨e0, List.mem_of_getElem? he0, hid⟩))
   | tup cs us hl hr =>
     simp only [frz, Option.map_eq_some_iff] at h
     obtain ⟨ts, hm, rfl⟩ := h
     refine .tup _ _ ((mapM_get' _ _ _ hm).1.symm.trans hl) (fun i e u he hu => ?_)
     obtain ⟨e0, he0, hf⟩ := mapM_back hm he
     exact ih e0 e u hf (hr i e0 u he0 hu) (fun id hid => hD id (by simp only [rch, List.mem_flatMap]; exact ⟨e0, List.mem_of_getElem? he0, hid⟩))
   | fn f cs us hl hr =>
     simp only [frz, Option.map_eq_some_iff] at h
     obtain ⟨ts, hm, rfl⟩ := h
     refine .fn _ _ _ ((mapM_get' _ _ _ hm).1.symm.trans hl) (fun i e u he hu => ?_)
     obtain ⟨e0, he0, hf⟩ := mapM_back hm he
     exact ih e0 e u hf (hr i e0 u he0 hu) (fun id hid => hD id (by simp only [rch, List.mem_flatMap]; exact ⟨e0, List.mem_of_getElem? he0, hid⟩))
   | bnd f cs us hl hr =>
     simp only [frz, Option.map_eq_some_iff] at h
     obtain ⟨ts, hm, rfl⟩ := h
     refine .bnd _ _ _ ((mapM_get' _ _ _ hm).1.symm.trans hl) (fun i e u he hu => ?_)
     obtain ⟨e0, he0, hf⟩ := mapM_back hm he
     exact ih e0 e u hf (hr i e0 u he0 hu) (fun id hid => hD id (by simp only [rch, List.mem_flatMap]; exact ⟨e0, List.mem_of_getElem? he0, hid⟩))
   | iface ty x u hr =>
     simp only [frz, Option.map_eq_some_iff] at h
     obtain ⟨t', hm, rfl⟩ := h
     exact .iface _ _ _ (ih _ _ _ hm hr (fun id hid => hD id (by simpa only [rch] using hid)))
   | ref id off len sz c o cells ty fz hid hc ho hm hz =>
     simp only [frz, Option.bind_eq_some_iff, Option.map_eq_some_iff] at h
     obtain ⟨xs, hxs, ts, hts, rfl⟩ := h
     have hxs' := hxs
     obtain ⟨ys, hrow, hle, -, hlen, hget⟩ := elems_ref hxs
     obtain ⟨cs0, ty0, u0, a1, a2, a3, a4, a5⟩ := hw.row id _ _ hrow
     have hl := (mapM_get' _ _ _ hts).1
     have hidD : id ∈ D := hD id (by simp [rch])
     have hlt : ι id < w.heap.size := (Array.getElem?_eq_some_iff.1 a1).1
     rw [← hlen, hl] at hc ⊢
     have el : ∀ (i : Nat) (y : V), ts[i]? = some y → ∃ x, xs[i]? = some x ∧ y.cells.length = sz ∧ y.cells.all V.one = true ∧
      ∀ (j : Nat) (e' : V), y.cells[j]? = some e' → ∃ e, x.cells[j]? = some e ∧ frz σ k e = some e' := by
      intro i y hy
      obtain ⟨x, hx, hf⟩ := mapM_back hts hy
      obtain ⟨b1, b2⟩ := a3 _ _ (hget i x hx)
      obtain ⟨c1, c2, c3⟩ := elemM_spec (fun v t h1 h2 => frz_one h1 h2) hf b2
      exact ⟨x, hx, c1.trans b1, c2, c3⟩
     refine .sl sz ts (ι id) o c (fun i j => u0 (off + i) j) hc (fun hx => hx.2 id hidD (by rw [hrow]; simp) rfl) hlt (fun i y hy => let ⟨_, _, p, q, _⟩ := el i y hy; ⟨p, q⟩) ?_ ?_
     ·intro i y j e' hy he'
      obtain ⟨x, hx, -, -, hc3⟩ := el i y hy
      obtain ⟨e, he, hf⟩ := hc3 j e' he'
      have := a4 _ _ _ _ (hget i x hx) he
      have hi : i < ts.length := (List.getElem?_eq_some_iff.1 hy).1
      have hoe : o = off * sz := by
       rcases ho with h0 | h0
       ·omega
       ·exact h0
      simp only [World.cell?, a1]
      rw [hoe, show off * sz + i * sz + j = (off + i) * sz + j by rw [Nat.add_mul]]
      exact this
     ·intro i y j e' hy he'
      obtain ⟨x, hx, -, -, hc3⟩ := el i y hy
      obtain ⟨e, he, hf⟩ := hc3 j e' he'
      exact ih e e' _ hf (a5 _ _ _ _ (hget i x hx) he) (fun id' hid' => hD id' (by
       simp only [rch, List.mem_cons, hxs', Option.getD_some, List.mem_flatMap]
       exact .inr ⟨x, List.mem_of_getElem? hx, e, List.mem_of_getElem? he, hid'⟩))
   | ptr id sz i j hid =>
     simp only [frz, Option.bind_eq_some_iff, Option.map_eq_some_iff] at h
     obtain ⟨e, hrow, ts, hts, rfl⟩ := h
     have hrow' := hrow
     obtain ⟨ys, hrow, hget⟩ := rowAt_spec hrow
     obtain ⟨cs0, ty0, u0, a1, a2, a3, a4, a5⟩ := hw.row id _ _ hrow
     have hidD : id ∈ D := hD id (by simp [rch])
     have hlt : ι id < w.heap.size := (Array.getElem?_eq_some_iff.1 a1).1
     have hall : ts.all V.one = true := by
      rw [List.all_eq_true]
      intro e' he'
      obtain ⟨q, hq, rfl⟩ := List.getElem_of_mem he'
      obtain ⟨e0, he0, hf⟩ := mapM_back hts (List.getElem?_eq_getElem hq)
      rw [List.getElem?_drop] at he0
      exact frz_one hf (List.all_eq_true.1 (a3 _ _ hget).2 e0 (List.mem_of_getElem? he0))
     refine .box ts (ι id) (i * sz + j) (fun q => u0 i (j + q)) (fun hx => hx.2 id hidD (by rw [hrow]; simp) rfl) hlt hall ?_ ?_
     ·intro q e' he'
      obtain ⟨e0, he0, hf⟩ := mapM_back hts he'
      rw [List.getElem?_drop] at he0
      have := a4 _ _ _ _ hget he0
      simp only [World.cell?, a1]
      rw [Nat.add_assoc]; exact this
     ·intro q e' he'
      obtain ⟨e0, he0, hf⟩ := mapM_back hts he'
      have he0' := he0
      rw [List.getElem?_drop] at he0
      exact ih e0 e' _ hf (a5 _ _ _ _ hget he0) (fun id' hid' => hD id' (by
       simp only [rch, List.mem_cons, hrow', Option.map_some, Option.getD_some, List.mem_flatMap]
       exact .inr ⟨e0, List.mem_of_getElem? he0', hid'⟩))
theorem thaw_frz : ∀ (k : Nat) (v t : V), frz σ k v = some t → ∀ (σ' : Sto) (n : Nat), thaw σ' n t = (t, σ', n) := by
 intro k
 induction k with
 | zero => intro v t h; simp [frz] at h
 | succ k ih =>
   have ihL : ∀ (l m : List V), l.mapM (frz σ k) = some m → ∀ (σ' : Sto) (n : Nat), thawL σ' n m = (m, σ', n) := by
    intro l
    induction l with
    | nil => intro m h σ' n; simp at h; subst h; simp [thawL]
    | cons x l ihl =>
      intro m h σ' n
      simp only [List.mapM_cons, Option.pure_def, Option.bind_eq_bind, Option.bind_eq_some_iff, Option.some.injEq] at h
      obtain ⟨y, hy, m', hm, rfl⟩ := h
      simp [thawL, ih _ _ hy, ihl _ hm]
   intro v t h σ' n
   cases v <;> simp only [frz, Option.some.injEq, Option.map_eq_some_iff, Option.bind_eq_some_iff, reduceCtorEq] at h
   case agg cs => obtain ⟨m, hm, rfl⟩ := h; simp [thaw, ihL _ _ hm]
   case tup cs => obtain ⟨m, hm, rfl⟩ := h; simp [thaw, ihL _ _ hm]
   case fn f cs => obtain ⟨m, hm, rfl⟩ := h; simp [thaw]
   case bnd f cs => obtain ⟨m, hm, rfl⟩ := h; simp [thaw]
   case iface ty x => obtain ⟨m, hm, rfl⟩ := h; simp [thaw, ih _ _ hm]
   case ref => obtain ⟨_, _, _, _, rfl⟩ := h; simp [thaw]
   case ptr => obtain ⟨_, _, _, _, rfl⟩ := h; simp [thaw]
   all_goals (subst h; simp [thaw])
theorem dropL_wf (hw : WF w X ι σ n) (D : List Nat) : WF w (cutX X ι σ D) ι (dropL σ D) n := by
 have hs : ∀ id o, dropL σ D id = some o → σ id = some o ∧ id ∉ D := fun id o h => by
  unfold dropL at h
  split at h
  ·cases h
  ·exact ⟨h, by assumption⟩
 have hne : ∀ id, dropL σ D id ≠ none → σ id ≠ none ∧ id ∉ D := fun id h => by
  obtain ⟨o, ho⟩ := Option.ne_none_iff_exists'.1 h
  have := hs id o ho
  exact ⟨by rw [this.1]; simp, this.2⟩
 constructor
 ·intro id sz xs h
  obtain ⟨cells, ty, u, a1, a2, a3, a4, a5⟩ := hw.row id sz xs (hs _ _ h).1
  exact ⟨cells, ty, u, a1, a2, a3, a4, fun i x j e hx he => (a5 i x j e hx he).move (Nat.le_refl _) (fun _ _ _ => rfl) (fun _ c _ _ h => ⟨c, h, rfl⟩) (fun _ _ => rfl) (fun b _ h => h.1) (Nat.le_refl _)⟩
 ·intro l env ps a b st pend h
  obtain ⟨r, a1, a2⟩ := hw.loop l env ps a b st pend (hs _ _ h).1
  exact ⟨r, a1, a2.move (Nat.le_refl _) (fun _ _ _ => rfl) (fun _ c _ _ h => ⟨c, h, rfl⟩) (fun _ _ => rfl) (fun b _ h => h.1) (Nat.le_refl _)⟩
 ·intro id h
  obtain ⟨h1, h2⟩ := hne id h
  refine ⟨hw.own id h1, fun id' hid' hn e => h2 (hw.inj id' id hn h1 e ▸ hid')⟩
 ·intro id id' h h' he
  exact hw.inj id id' (hne _ h).1 (hne _ h').1 he
 ·intro id h
  exact hw.dom id (hne _ h).1
 ·intro b h
  exact hw.xlt b h.1
 ·intro id o h
  exact (hw.mi id o (hs _ _ h).1).move (Nat.le_refl _) (fun _ _ _ => rfl) (fun _ c _ _ h => ⟨c, h, rfl⟩) (fun _ _ => rfl) (fun b _ h => h.1) (Nat.le_refl _) rfl
end
end Go.Q
end

section
/- Rows that a call hands over become objects of its caller's store. -/
namespace Go.Q
variable [Link]
theorem giv_live {σ : Sto} : ∀ (k : Nat) (v r : V), giv σ k v = some r → ∀ g ∈ gids σ k v, σ g ≠ none := by
 intro k
 induction k with
 | zero => intro v r h; simp [giv] at h
 | succ k ih =>
   have ihL : ∀ (l m : List V), l.mapM (giv σ k) = some m → ∀ g ∈ l.flatMap (gids σ k), σ g ≠ none := by
    intro l m h g hg
    obtain ⟨x, hx, hg⟩ := List.mem_flatMap.1 hg
    obtain ⟨i, hi, rfl⟩ := List.getElem_of_mem hx
    obtain ⟨h1, h2⟩ := mapM_get' _ _ _ h
    exact ih _ _ (h2 i _ _ (List.getElem?_eq_getElem hi) (List.getElem?_eq_getElem (by omega))) g hg
   intro v r h g hg
   cases v <;> simp only [gids, List.not_mem_nil] at hg
   case agg cs => simp only [giv, Option.map_eq_some_iff] at h; obtain ⟨m, hm, rfl⟩ := h; exact ihL _ _ hm g hg
   case tup cs => simp only [giv, Option.map_eq_some_iff] at h; obtain ⟨m, hm, rfl⟩ := h; exact ihL _ _ hm g hg
   case iface t x => simp only [giv, Option.map_eq_some_iff] at h; obtain ⟨m, hm, rfl⟩ := h; exact ih _ _ hm g hg
   case ref id off len sz =>
    simp only [giv] at h
    split at h
    ·rename_i sz' xs hrow
     simp only [hrow, List.mem_cons] at hg
     split at h
     ·simp only [Option.map_eq_some_iff] at h
      obtain ⟨m, hm, rfl⟩ := h
      rcases hg with rfl | hg
      ·rw [hrow]; simp
      ·obtain ⟨x, hx, hg⟩ := List.mem_flatMap.1 hg
       obtain ⟨i, hi, rfl⟩ := List.getElem_of_mem hx
       obtain ⟨h1, h2⟩ := mapM_get' _ _ _ hm
       have he := h2 i _ _ (List.getElem?_eq_getElem hi) (List.getElem?_eq_getElem (by omega))
       unfold elemM at he
       split at he
       ·rename_i cs hcs
        simp only [Option.map_eq_some_iff] at he
        obtain ⟨cs', hcs', _⟩ := he
        rw [hcs] at hg
        exact ihL _ _ hcs' g hg
       ·rename_i hcs
        rw [not_agg_cells hcs] at hg
        simp only [List.flatMap_cons, List.flatMap_nil, List.append_nil] at hg
        exact ih _ _ he g hg
     ·cases h
    ·cases h
section
variable {w : World} {X1 Xf : Nat → Prop} {ι1 : Nat → Nat} {σ1 : Sto} {n1 : Nat}
structure Thr (w : World) (Xf : Nat → Prop) (ι1 : Nat → Nat) (G : List Nat) (σ : Sto) (n : Nat) (ι : Nat → Nat) (σ' : Sto) (n' : Nat) (ι' : Nat → Nat) : Prop where
 wf : WF w Xf ι' σ' n'
 le : n ≤ n'
 ix : ∀ id, id < n → ι' id = ι id
 new : ∀ id, n ≤ id → σ' id ≠ none → ∃ g ∈ G, ι' id = ι1 g
 old : ∀ id, id < n → σ' id = σ id
variable {σ σ' σ'' : Sto} {n n' n'' : Nat} {ι ι' ι'' : Nat → Nat} {G G' : List Nat}
theorem Thr.refl (h : WF w Xf ι σ n) : Thr w Xf ι1 [] σ n ι σ n ι :=
 ⟨h, Nat.le_refl _, fun _ _ => rfl, fun id h1 h2 => absurd (h.dom id h2) (by omega), fun _ _ => rfl⟩
theorem Thr.trans (h : Thr w Xf ι1 G σ n ι σ' n' ι') (h' : Thr w Xf ι1 G' σ' n' ι' σ'' n'' ι'') : Thr w Xf ι1 (G ++ G') σ n ι σ'' n'' ι'' where
 wf := h'.wf
 le := Nat.le_trans h.le h'.le
 ix := fun id hid => (h'.ix id (Nat.lt_of_lt_of_le hid h.le)).trans (h.ix id hid)
 new := fun id hid hs => by
  by_cases hl : id < n'
  ·rw [h'.old id hl] at hs
   obtain ⟨g, hg, e⟩ := h.new id hid hs
   exact ⟨g, List.mem_append_left _ hg, (h'.ix id hl).trans e⟩
  ·obtain ⟨g, hg, e⟩ := h'.new id (by omega) hs
   exact ⟨g, List.mem_append_right _ hg, e⟩
 old := fun id hid => (h'.old id (Nat.lt_of_lt_of_le hid h.le)).trans (h.old id hid)
theorem Thr.rep (h : Thr w Xf ι1 G σ n ι σ' n' ι') {v : V} {u : Value} (hr : Rep w Xf ι n v u) : Rep w Xf ι' n' v u :=
 hr.move (Nat.le_refl _) (fun _ _ _ => rfl) (fun _ c _ _ h => ⟨c, h, rfl⟩) h.ix (fun _ _ h => h) h.le
def Fr (ι1 : Nat → Nat) (G : List Nat) (σ : Sto) (ι : Nat → Nat) : Prop := ∀ g ∈ G, ∀ id, σ id ≠ none → ι id ≠ ι1 g
theorem Thr.fr (hw1 : WF w X1 ι1 σ1 n1) (hw : WF w Xf ι σ n) (h : Thr w Xf ι1 G σ n ι σ' n' ι') (hf : Fr ι1 G' σ ι) (hl : ∀ g ∈ G, σ1 g ≠ none) (hl' : ∀ g ∈ G', σ1 g ≠ none)
 (hd : ∀ g ∈ G, g ∉ G') : Fr ι1 G' σ' ι' := by
 intro g hg id hs
 by_cases hid : id < n
 ·rw [h.ix id hid]
  exact hf g hg id (by rwa [h.old id hid] at hs)
 ·obtain ⟨g', hg', e⟩ := h.new id (by omega) hs
  rw [e]
  intro e'
  exact hd g' hg' (hw1.inj g' g (hl _ hg') (hl' _ hg) e' ▸ hg)
def GivOk (w : World) (X1 Xf : Nat → Prop) (ι1 : Nat → Nat) (σ1 : Sto) (n1 : Nat) (k : Nat) : Prop :=
 ∀ (v r : V) (u : Value), giv σ1 k v = some r → (flat r = true ∨ ∀ b, Xf b → X1 b) → Rep w X1 ι1 n1 v u → (∀ g ∈ gids σ1 k v, Xf (ι1 g)) → (gids σ1 k v).Nodup →
  ∀ (σ : Sto) (n : Nat) (ι : Nat → Nat), WF w Xf ι σ n → Fr ι1 (gids σ1 k v) σ ι →
   ∃ ι', Thr w Xf ι1 (gids σ1 k v) σ n ι (thaw σ n r).2.1 (thaw σ n r).2.2 ι' ∧ Rep w Xf ι' (thaw σ n r).2.2 (thaw σ n r).1 u ∧ (v.one = true → (thaw σ n r).1.one = true)
theorem givL (hw1 : WF w X1 ι1 σ1 n1) {k : Nat} (ih : GivOk w X1 Xf ι1 σ1 n1 k) : ∀ (l m : List V) (u : Nat → Value), l.mapM (giv σ1 k) = some m → (flatL m = true ∨ ∀ b, Xf b → X1 b) →
 (∀ (i : Nat) (e : V), l[i]? = some e → Rep w X1 ι1 n1 e (u i)) → (∀ g ∈ l.flatMap (gids σ1 k), Xf (ι1 g)) → (l.flatMap (gids σ1 k)).Nodup →
 ∀ (σ : Sto) (n : Nat) (ι : Nat → Nat), WF w Xf ι σ n → Fr ι1 (l.flatMap (gids σ1 k)) σ ι →
  ∃ ι', Thr w Xf ι1 (l.flatMap (gids σ1 k)) σ n ι (thawL σ n m).2.1 (thawL σ n m).2.2 ι' ∧ (thawL σ n m).1.length = l.length ∧
   (∀ (i : Nat) (e : V), (thawL σ n m).1[i]? = some e → Rep w Xf ι' (thawL σ n m).2.2 e (u i)) ∧ (l.all V.one = true → (thawL σ n m).1.all V.one = true) := by
 intro l
 induction l with
 | nil =>
   intro m u h _ _ _ _ σ n ι hw _
   simp at h; subst h
   exact ⟨ι, by simpa [thawL] using Thr.refl hw, by simp [thawL]⟩
 | cons x l ihl =>
   intro m u h hfl hr hX hnd σ n ι hw hf
   simp only [List.mapM_cons, Option.pure_def, Option.bind_eq_bind, Option.bind_eq_some_iff, Option.some.injEq] at h
   obtain ⟨y, hy, m', hm, rfl⟩ := h
   have hfl1 : flat y = true ∨ ∀ b, Xf b → X1 b := hfl.imp_left (fun h => by simp only [flatL, Bool.and_eq_true] at h; exact h.1)
   have hfl2 : flatL m' = true ∨ ∀ b, Xf b → X1 b := hfl.imp_left (fun h => by simp only [flatL, Bool.and_eq_true] at h; exact h.2)
   simp only [List.flatMap_cons] at hX hnd hf ⊢
   have hnd' := List.nodup_append.1 hnd
   obtain ⟨ι', ht, hrep, hone⟩ := ih x y (u 0) hy hfl1 (hr 0 x rfl) (fun g hg => hX g (List.mem_append_left _ hg)) hnd'.1 σ n ι hw (fun g hg => hf g (List.mem_append_left _ hg))
   have hlive : ∀ g ∈ gids σ1 k x, σ1 g ≠ none := giv_live k x y hy
   have hlive' : ∀ g ∈ l.flatMap (gids σ1 k), σ1 g ≠ none := fun g hg => by
    obtain ⟨x', hx', hg⟩ := List.mem_flatMap.1 hg
    obtain ⟨i, hi, rfl⟩ := List.getElem_of_mem hx'
    obtain ⟨h1, h2⟩ := mapM_get' _ _ _ hm
    exact giv_live _ _ _ (h2 i _ _ (List.getElem?_eq_getElem hi) (List.getElem?_eq_getElem (by omega))) g hg
   obtain ⟨ι'', ht', hlen, hrep', hone'⟩ := ihl m' (fun i => u (i + 1)) hm hfl2 (fun i e he => hr (i + 1) e (by simpa using he)) (fun g hg => hX g (List.mem_append_right _ hg)) hnd'.2.1
    (thaw σ n y).2.1 (thaw σ n y).2.2 ι' ht.wf (ht.fr hw1 hw (fun g hg => hf g (List.mem_append_right _ hg)) hlive hlive' (fun g hg hg' => hnd'.2.2 g hg g hg' rfl))
   refine ⟨ι'', by simpa [thawL] using ht.trans ht', by simp [thawL, hlen], ?_, ?_⟩
   ·intro i e he
    simp only [thawL] at he ⊢
    cases i with
    | zero => simp at he; subst he; exact ht'.rep hrep
    | succ i => exact hrep' i e (by simpa using he)
   ·intro h1
    simp only [List.all_cons, Bool.and_eq_true] at h1
    simp only [thawL, List.all_cons, Bool.and_eq_true]
    exact ⟨hone h1.1, hone' h1.2⟩
theorem givE (hw1 : WF w X1 ι1 σ1 n1) {k : Nat} (ih : GivOk w X1 Xf ι1 σ1 n1 k) (sz : Nat) : ∀ (l m : List V) (u : Nat → Nat → Value), l.mapM (elemM (giv σ1 k)) = some m → (flatL m = true ∨ ∀ b, Xf b → X1 b) →
 (∀ (i : Nat) (x : V), l[i]? = some x → x.cells.length = sz ∧ x.cells.all V.one = true) →
 (∀ (i : Nat) (x : V) (j : Nat) (e : V), l[i]? = some x → x.cells[j]? = some e → Rep w X1 ι1 n1 e (u i j)) →
 (∀ g ∈ l.flatMap (fun x => x.cells.flatMap (gids σ1 k)), Xf (ι1 g)) → (l.flatMap (fun x => x.cells.flatMap (gids σ1 k))).Nodup →
 ∀ (σ : Sto) (n : Nat) (ι : Nat → Nat), WF w Xf ι σ n → Fr ι1 (l.flatMap (fun x => x.cells.flatMap (gids σ1 k))) σ ι →
  ∃ ι', Thr w Xf ι1 (l.flatMap (fun x => x.cells.flatMap (gids σ1 k))) σ n ι (thawL σ n m).2.1 (thawL σ n m).2.2 ι' ∧ (thawL σ n m).1.length = l.length ∧
   (∀ (i : Nat) (x : V), (thawL σ n m).1[i]? = some x → x.cells.length = sz ∧ x.cells.all V.one = true) ∧
   (∀ (i : Nat) (x : V) (j : Nat) (e : V), (thawL σ n m).1[i]? = some x → x.cells[j]? = some e → Rep w Xf ι' (thawL σ n m).2.2 e (u i j)) := by
 intro l
 induction l with
 | nil =>
   intro m u h _ _ _ _ _ σ n ι hw _
   simp at h; subst h
   exact ⟨ι, by simpa [thawL] using Thr.refl hw, by simp [thawL], by simp [thawL], by simp [thawL]⟩
 | cons x l ihl =>
   intro m u h hfl hs hr hX hnd σ n ι hw hf
   simp only [List.mapM_cons, Option.pure_def, Option.bind_eq_bind, Option.bind_eq_some_iff, Option.some.injEq] at h
   obtain ⟨y, hy, m', hm, rfl⟩ := h
   have hfl1 : flat y = true ∨ ∀ b, Xf b → X1 b := hfl.imp_left (fun h => by simp only [flatL, Bool.and_eq_true] at h; exact h.1)
   have hfl2 : flatL m' = true ∨ ∀ b, Xf b → X1 b := hfl.imp_left (fun h => by simp only [flatL, Bool.and_eq_true] at h; exact h.2)
   simp only [List.flatMap_cons] at hX hnd hf ⊢
   have hnd' := List.nodup_append.1 hnd
   obtain ⟨hs1, hs2⟩ := hs 0 x rfl
   have key : ∃ ι', Thr w Xf ι1 (x.cells.flatMap (gids σ1 k)) σ n ι (thaw σ n y).2.1 (thaw σ n y).2.2 ι' ∧ (thaw σ n y).1.cells.length = sz ∧ (thaw σ n y).1.cells.all V.one = true ∧
    (∀ (j : Nat) (e : V), (thaw σ n y).1.cells[j]? = some e → Rep w Xf ι' (thaw σ n y).2.2 e (u 0 j)) ∧ ∀ g ∈ x.cells.flatMap (gids σ1 k), σ1 g ≠ none := by
    unfold elemM at hy
    split at hy
    ·rename_i cs
     simp only [Option.map_eq_some_iff] at hy
     obtain ⟨cs', hcs, rfl⟩ := hy
     obtain ⟨ι', a, b, c, d⟩ := givL hw1 ih cs cs' (u 0) hcs (by simpa only [flat] using hfl1) (fun j e he => hr 0 _ j e rfl he) (fun g hg => hX g (List.mem_append_left _ hg)) hnd'.1 σ n ι hw (fun g hg => hf g (List.mem_append_left _ hg))
     refine ⟨ι', by simpa [thaw, V.cells] using a, by simp only [thaw, V.cells]; rw [b]; exact hs1, by simp only [thaw, V.cells]; exact d hs2, by simpa [thaw, V.cells] using c, fun g hg => ?_⟩
     obtain ⟨x', hx', hg⟩ := List.mem_flatMap.1 hg
     obtain ⟨i, hi, rfl⟩ := List.getElem_of_mem hx'
     obtain ⟨h1, h2⟩ := mapM_get' _ _ _ hcs
     exact giv_live _ _ _ (h2 i _ _ (List.getElem?_eq_getElem hi) (List.getElem?_eq_getElem (by simp only [V.cells] at hi; omega))) g hg
    ·rename_i hx
     have hc := not_agg_cells hx
     rw [hc] at hs1 hs2 hX hnd' hf ⊢
     simp only [List.flatMap_cons, List.flatMap_nil, List.append_nil] at hX hnd' hf ⊢
     obtain ⟨ι', a, b, c⟩ := ih x y (u 0 0) hy hfl1 (hr 0 x 0 x rfl (by rw [hc]; rfl)) (fun g hg => hX g (List.mem_append_left _ hg)) hnd'.1 σ n ι hw (fun g hg => hf g (List.mem_append_left _ hg))
     have ho := c (by simpa using hs2)
     rw [one_cells ho]
     refine ⟨ι', a, hs1, by simpa using ho, fun j e he => ?_, giv_live _ _ _ hy⟩
     cases j with
     | zero => simp at he; subst he; exact b
     | succ j => simp at he
   obtain ⟨ι', ht, b1, b2, b3, hlive⟩ := key
   have hlive' : ∀ g ∈ l.flatMap (fun x => x.cells.flatMap (gids σ1 k)), σ1 g ≠ none := fun g hg => by
    obtain ⟨x', hx', hg⟩ := List.mem_flatMap.1 hg
    obtain ⟨i, hi, rfl⟩ := List.getElem_of_mem hx'
    obtain ⟨h1, h2⟩ := mapM_get' _ _ _ hm
    have he := h2 i _ _ (List.getElem?_eq_getElem hi) (List.getElem?_eq_getElem (by omega))
    unfold elemM at he
    split at he
    ·rename_i cs hcs
     simp only [Option.map_eq_some_iff] at he
     obtain ⟨cs', hcs', _⟩ := he
     rw [hcs] at hg
     obtain ⟨x2, hx2, hg⟩ := List.mem_flatMap.1 hg
     obtain ⟨q, hq, rfl⟩ := List.getElem_of_mem hx2
     obtain ⟨h3, h4⟩ := mapM_get' _ _ _ hcs'
     exact giv_live _ _ _ (h4 q _ _ (List.getElem?_eq_getElem hq) (List.getElem?_eq_getElem (by simp [V.cells] at hq; omega))) g hg
    ·rename_i hcs
     rw [not_agg_cells hcs] at hg
     simp only [List.flatMap_cons, List.flatMap_nil, List.append_nil] at hg
     exact giv_live _ _ _ he g hg
   obtain ⟨ι'', ht', hlen, c1, c2⟩ := ihl m' (fun i => u (i + 1)) hm hfl2 (fun i x hx => hs (i + 1) x (by simpa using hx)) (fun i x j e hx he => hr (i + 1) x j e (by simpa using hx) he)
    (fun g hg => hX g (List.mem_append_right _ hg)) hnd'.2.1
    (thaw σ n y).2.1 (thaw σ n y).2.2 ι' ht.wf (ht.fr hw1 hw (fun g hg => hf g (List.mem_append_right _ hg)) hlive hlive' (fun g hg hg' => hnd'.2.2 g hg g hg' rfl))
   refine ⟨ι'', by simpa [thawL] using ht.trans ht', by simp [thawL, hlen], ?_, ?_⟩
   ·intro i z hz
    simp only [thawL] at hz
    cases i with
    | zero => simp at hz; subst hz; exact ⟨b1, b2⟩
    | succ i => exact c1 i z (by simpa using hz)
   ·intro i z j e hz he
    simp only [thawL] at hz ⊢
    cases i with
    | zero => simp at hz; subst hz; exact ht'.rep (b3 j e he)
    | succ i => exact c2 i z j e (by simpa using hz) he
theorem giv_ok (hw1 : WF w X1 ι1 σ1 n1) : ∀ k, GivOk w X1 Xf ι1 σ1 n1 k := by
 intro k
 induction k with
 | zero => intro v r u h; simp [giv] at h
 | succ k ih =>
   intro v r u h hfl hr hX hnd σ n ι hw hf
   have leaf : ∀ {x : V}, (∀ σ n, thaw σ n x = (x, σ, n)) → Rep w Xf ι n x u → ∃ ι', Thr w Xf ι1 (gids σ1 (k + 1) v) σ n ι (thaw σ n x).2.1 (thaw σ n x).2.2 ι' ∧
    Rep w Xf ι' (thaw σ n x).2.2 (thaw σ n x).1 u ∧ (x.one = true → (thaw σ n x).1.one = true) := by
    intro x hx hrx
    rw [hx]
    exact ⟨ι, ⟨hw, Nat.le_refl _, fun _ _ => rfl, fun id h1 h2 => absurd (hw.dom id h2) (by omega), fun _ _ => rfl⟩, hrx, fun h => h⟩
   cases hr with
   | int q m => simp [giv] at h; subst h; exact leaf (fun _ _ => by simp [thaw]) (.int q m)
   | bool b => simp [giv] at h; subst h; exact leaf (fun _ _ => by simp [thaw]) (.bool b)
   | str s => simp [giv] at h; subst h; exact leaf (fun _ _ => by simp [thaw]) (.str s)
   | nilS => simp [giv] at h; subst h; exact leaf (fun _ _ => by simp [thaw]) .nilS
   | nilP => simp [giv] at h; subst h; exact leaf (fun _ _ => by simp [thaw]) .nilP
   | nilF => simp [giv] at h; subst h; exact leaf (fun _ _ => by simp [thaw]) .nilF
   | nilI => simp [giv] at h; subst h; exact leaf (fun _ _ => by simp [thaw]) .nilI
   | undef => simp [giv] at h; subst h; exact leaf (fun _ _ => by simp [thaw]) .undef
   | yld l hid => simp [giv] at h
   | nilM => simp [giv] at h; subst h; exact leaf (fun _ _ => by simp [thaw]) .nilM
   | mp id hid => simp [giv] at h
   | it id hid => simp [giv] at h
   | ptr id sz i j hid => simp [giv] at h
   | bnd f cs us hl hr' => simp [giv] at h
   | fn f cs us hl hr' =>
     cases cs with
     | nil =>
       simp [giv] at h; subst h
       exact leaf (fun _ _ => by simp [thaw]) (.fn _ _ _ hl (fun i e u he => by simp at he))
     | cons c cs => simp [giv] at h
   | slE sz c a => simp [giv] at h; subst h; exact leaf (fun _ _ => by simp [thaw]) (.slE sz c a)
   | sl sz xs b o c u hc hX' hb hs hm hr' =>
     simp [giv] at h; subst h
     exact leaf (fun _ _ => by simp [thaw]) ((Rep.sl (n := n1) sz xs b o c u hc hX' hb hs hm hr').tree (hfl.resolve_left (by simp [flat])) (.inl ⟨_, _, rfl⟩))
   | box cs b o u hX' hb h1 hm hr' =>
     simp [giv] at h; subst h
     exact leaf (fun _ _ => by simp [thaw]) ((Rep.box (n := n1) cs b o u hX' hb h1 hm hr').tree (hfl.resolve_left (by simp [flat])) (.inr ⟨_, rfl⟩))
   | iface ty x u hr' =>
     simp only [giv, Option.map_eq_some_iff] at h
     obtain ⟨y, hy, rfl⟩ := h
     simp only [gids] at hX hnd hf ⊢
     obtain ⟨ι', a, b, c⟩ := ih x y u hy (by simpa only [flat] using hfl) hr' hX hnd σ n ι hw hf
     exact ⟨ι', by simpa [thaw] using a, by simp only [thaw]; exact .iface _ _ _ b, fun _ => rfl⟩
   | agg cs us hl hr' =>
     simp only [giv, Option.map_eq_some_iff] at h
     obtain ⟨m, hm, rfl⟩ := h
     simp only [gids] at hX hnd hf ⊢
     obtain ⟨ι', a, b, c, d⟩ := givL hw1 ih cs m (fun i => us.getD i undef) hm (by simpa only [flat] using hfl) (fun i e he => by
      have hi : i < us.size := by have := (List.getElem?_eq_some_iff.1 he).1; omega
      have := hr' i e us[i] he (Array.getElem?_eq_getElem hi)
      simpa [hi] using this) hX hnd σ n ι hw hf
     refine ⟨ι', by simpa [thaw] using a, ?_, fun h => by simp [V.one] at h⟩
     simp only [thaw]
     refine .agg _ _ (b.trans hl) (fun i e x he hx => ?_)
     have := c i e he
     rwa [show us.getD i undef = x by simp [Array.getD_eq_getD_getElem?, hx]] at this
   | tup cs us hl hr' =>
     simp only [giv, Option.map_eq_some_iff] at h
     obtain ⟨m, hm, rfl⟩ := h
     simp only [gids] at hX hnd hf ⊢
     obtain ⟨ι', a, b, c, d⟩ := givL hw1 ih cs m (fun i => us.getD i undef) hm (by simpa only [flat] using hfl) (fun i e he => by
      have hi : i < us.size := by have := (List.getElem?_eq_some_iff.1 he).1; omega
      have := hr' i e us[i] he (Array.getElem?_eq_getElem hi)
      simpa [hi] using this) hX hnd σ n ι hw hf
     refine ⟨ι', by simpa [thaw] using a, ?_, fun h => by simp [V.one] at h⟩
     simp only [thaw]
     refine .tup _ _ (b.trans hl) (fun i e x he hx => ?_)
     have := c i e he
     rwa [show us.getD i undef = x by simp [Array.getD_eq_getD_getElem?, hx]] at this
   | ref id off len sz c o cells ty fz hid hc ho hm hz =>
     simp only [giv] at h
     split at h
     ·rename_i sz' xs hrow
      split at h
      ·rename_i hcond
       obtain ⟨rfl, rfl, rfl⟩ := hcond
       simp only [Option.map_eq_some_iff] at h
       obtain ⟨m, hmm, rfl⟩ := h
       simp only [gids, hrow] at hX hnd hf ⊢
       obtain ⟨hid', hnd'⟩ := List.nodup_cons.1 hnd
       obtain ⟨cs0, ty0, u0, a1, a2, a3, a4, a5⟩ := hw1.row id _ _ hrow
       obtain ⟨ι', ht, hlen, c1, c2⟩ := givE hw1 ih sz' xs m u0 hmm (by simpa only [flat] using hfl) a3 a5 (fun g hg => hX g (List.mem_cons_of_mem _ hg)) hnd' σ n ι hw (fun g hg => hf g (List.mem_cons_of_mem _ hg))
       have hml : m.length = xs.length := (mapM_get' _ _ _ hmm).1.symm
       have hlive : ∀ g ∈ xs.flatMap (fun x => x.cells.flatMap (gids σ1 k)), σ1 g ≠ none := by
        have := giv_live (σ := σ1) (k + 1) (.ref id 0 xs.length sz') (.own sz' m) (by simp [giv, hrow, hmm])
        simp only [gids, hrow] at this
        exact fun g hg => this g (List.mem_cons_of_mem _ hg)
       have hfr : Fr ι1 [id] (thawL σ n m).2.1 ι' := ht.fr hw1 hw (fun g hg => by simp at hg; subst hg; exact hf _ (by simp)) hlive (fun g hg => by simp at hg; subst hg; rw [hrow]; simp)
        (fun g hg hg' => by simp at hg'; subst hg'; exact hid' hg)
       have hfr' := hfr id (by simp)
       generalize hT : thawL σ n m = T at *
       obtain ⟨ys, σ2, n2⟩ := T
       simp only [thaw, hT] at *
       have hi1 : ∀ q, q < n2 → (fun i => if i = n2 then ι1 id else ι' i) q = ι' q := fun q hq => by simp; omega
       have hmv : ∀ {v u}, Rep w Xf ι' n2 v u → Rep w Xf (fun i => if i = n2 then ι1 id else ι' i) (n2 + 1) v u := fun hh =>
        hh.move (Nat.le_refl _) (fun _ _ _ => rfl) (fun _ c _ _ h => ⟨c, h, rfl⟩) hi1 (fun _ _ h => h) (by omega)
       have hn2 : σ2 n2 = none := by
        cases hh : σ2 n2 with
        | none => rfl
        | some o => have := ht.wf.dom n2 (by rw [hh]; simp); omega
       have hne : ∀ q, upd σ2 n2 (some (.row sz' ys)) q ≠ none → q ≠ n2 → σ2 q ≠ none := fun q hq e => by simpa [upd, e] using hq
       refine ⟨fun i => if i = n2 then ι1 id else ι' i, ⟨?_, by have := ht.le; omega, fun q hq => by
        have := ht.le
        exact (hi1 q (by omega)).trans (ht.ix q hq), fun q hq hs => ?_, fun q hq => ?_⟩, ?_, fun _ => rfl⟩
       ·constructor
        ·intro q sz'' zs hh
         by_cases e : q = n2
         ·subst e
          simp only [upd, if_true, Option.some.injEq, Ob.row.injEq] at hh
          obtain ⟨rfl, rfl⟩ := hh
          simp only [if_true]
          refine ⟨cs0, ty0, u0, a1, by rw [hlen]; exact a2, c1, fun i x j e hx he => ?_, fun i x j e hx he => hmv (c2 i x j e hx he)⟩
          obtain ⟨p1, p2⟩ := c1 i x hx
          have hi : i < xs.length := by have := (List.getElem?_eq_some_iff.1 hx).1; omega
          have hj : j < xs[i].cells.length := by
           have := (List.getElem?_eq_some_iff.1 he).1
           have := (a3 i _ (List.getElem?_eq_getElem hi)).1
           omega
          exact a4 i _ j _ (List.getElem?_eq_getElem hi) (List.getElem?_eq_getElem hj)
         ·simp only [upd, e, if_false] at hh
          obtain ⟨cells', ty', u', b1, b2, b3, b4, b5⟩ := ht.wf.row q _ _ hh
          simp only [e, if_false]
          exact ⟨cells', ty', u', b1, b2, b3, b4, fun i x j e hx he => hmv (b5 i x j e hx he)⟩
        ·intro q env ps a b st pend hh
         by_cases e : q = n2
         ·subst e; simp [upd] at hh
         ·simp only [upd, e, if_false] at hh
          obtain ⟨r, b1, b2⟩ := ht.wf.loop q _ _ _ _ _ _ hh
          simp only [e, if_false]
          exact ⟨r, b1, b2.hst, b2.hpend, b2.hpn, b2.hps, b2.code, fun t => hmv (b2.rep t)⟩
        ·intro q hq
         by_cases e : q = n2
         ·subst e; simp only [if_true]; exact hX id (by simp)
         ·simp only [e, if_false]; exact ht.wf.own q (hne q hq e)
        ·intro q q' hq hq' he
         by_cases e : q = n2 <;> by_cases e' : q' = n2
         ·omega
         ·simp only [e, e', if_true, if_false] at he
          exact absurd he.symm (hfr' q' (hne q' hq' e'))
         ·simp only [e, e', if_true, if_false] at he
          exact absurd he (hfr' q (hne q hq e))
         ·simp only [e, e', if_false] at he
          exact ht.wf.inj q q' (hne q hq e) (hne q' hq' e') he
        ·intro q hq
         by_cases e : q = n2
         ·omega
         ·have := ht.wf.dom q (hne q hq e); omega
        ·exact ht.wf.xlt
        ·intro q o' hh
         by_cases e : q = n2
         ·subst e
          simp only [upd, if_true, Option.some.injEq] at hh
          subst hh
          trivial
         ·simp only [upd, e, if_false] at hh
          simp only [e, if_false]
          exact (ht.wf.mi q o' hh).move (Nat.le_refl _) (fun _ _ _ => rfl) (fun _ c _ _ h => ⟨c, h, rfl⟩) hi1 (fun _ _ h => h) (by omega) rfl
       ·by_cases e : q = n2
        ·exact ⟨id, by simp, by simp [e]⟩
        ·obtain ⟨g, hg, eg⟩ := ht.new q hq (hne q hs e)
         exact ⟨g, List.mem_cons_of_mem _ hg, by simp only [e, if_false]; exact eg⟩
       ·have := ht.le
        have e : q ≠ n2 := by omega
        simp only [upd, e, if_false]
        exact ht.old q hq
       ·rw [hml]
        have := Rep.ref (w := w) (X := Xf) (ι := fun i => if i = n2 then ι1 id else ι' i) (n := n2 + 1) n2 0 xs.length sz' c o cells ty fz (by omega) hc ho (by simpa using hm) hz
        simpa using this
      ·cases h
     ·cases h
end
end Go.Q
end

section
/- A call on trees: what its caller has when it is back. -/
namespace Go.Q
variable [Link]
section
variable {w w' : World} {X X' : Nat → Prop} {ι ι' : Nat → Nat} {σ σ' : Sto} {n n' lk : Nat}
theorem flat_rep {v : V} {u : Value} (h : Rep w X ι n v u) (hf : flat v = true) : Rep w X' ι' n' v u := by
 have key : ∀ cs : List V, flatL cs = true → ∀ (i : Nat) (e : V), cs[i]? = some e → flat e = true := by
  intro cs
  induction cs with
  | nil => intro _ i e he; simp at he
  | cons c cs ih =>
    intro h i e he
    simp only [flatL, Bool.and_eq_true] at h
    cases i with
    | zero => simp at he; subst he; exact h.1
    | succ i => exact ih h.2 i e (by simpa using he)
 induction h with
 | int k m => exact .int k m
 | bool b => exact .bool b
 | str s => exact .str s
 | nilS => exact .nilS
 | sl => simp [flat] at hf
 | slE => simp [flat] at hf
 | ref => simp [flat] at hf
 | agg cs us hl hr ih => exact .agg cs us hl (fun i e u he hu => ih i e u he hu (key cs (by simpa only [flat] using hf) i e he))
 | tup cs us hl hr ih => exact .tup cs us hl (fun i e u he hu => ih i e u he hu (key cs (by simpa only [flat] using hf) i e he))
 | nilP => exact .nilP
 | ptr => simp [flat] at hf
 | box => simp [flat] at hf
 | fn f cs us hl hr ih => exact .fn f cs us hl (fun i e u he hu => ih i e u he hu (key cs (by simpa only [flat] using hf) i e he))
 | bnd => simp [flat] at hf
 | yld => simp [flat] at hf
 | nilM => exact .nilM
 | mp => simp [flat] at hf
 | it => simp [flat] at hf
 | nilF => exact .nilF
 | iface t x u hr ih => exact .iface t x u (ih (by simpa only [flat] using hf))
 | nilI => exact .nilI
 | undef => exact .undef
def Back (m : Mode) (w w' : World) (X0 : Nat → Prop) (r : V) (u : Value) : Prop :=
 ∃ X1 ι1 σ1 n1 v, WF w' X1 ι1 σ1 n1 ∧ Rep w' X1 ι1 n1 v u ∧ back m σ1 v r ∧ Ext w w' X0 X1 (fun _ => 0) ι1 Sto.empty σ1 0 n1 0
theorem dropL_nil (σ : Sto) : dropL σ [] = σ := by funext id; simp [dropL]
theorem call_back (hw : WF w X ι σ n) (hl : lk ≤ n) {D D0 : List Nat} {m : Mode} {r : V} {u : Value} (hD : D = if flat r then [] else D0) (hlk : ∀ id ∈ D, lk ≤ id)
 (hb : Back m w w' (cutX X ι σ D0) r u) :
 ∃ X' ι', WF w' X' ι' (thaw (dropL σ D) n r).2.1 (thaw (dropL σ D) n r).2.2 ∧ Rep w' X' ι' (thaw (dropL σ D) n r).2.2 (thaw (dropL σ D) n r).1 u ∧
  Ext w w' X X' ι ι' σ (thaw (dropL σ D) n r).2.1 n (thaw (dropL σ D) n r).2.2 lk := by
 obtain ⟨X1, ι1, σ1, n1, v, hw1, hr1, hback, he⟩ := hb
 have hnoown : ∀ b, ¬ Own Sto.empty (fun _ => 0) 0 b := fun b h => by obtain ⟨id, _, h1, _⟩ := h; exact h1 rfl
 have hheap : ∀ b, b < w.heap.size → w'.heap[b]? = w.heap[b]? := fun b hb => he.heap b hb (hnoown b)
 have hX1 : ∀ b, cutX X ι σ D0 b → X1 b := fun b hb => he.xold b hb (hnoown b)
 have hnew : ∀ id, σ1 id ≠ none → w.heap.size ≤ ι1 id := fun id h => by
  by_cases hlt : ι1 id < w.heap.size
  ·exact absurd (he.own id (Nat.zero_le _) h hlt) (hnoown _)
  ·omega
 have hsub : ∀ id ∈ D, id ∈ D0 := fun id h => by
  rw [hD] at h
  split at h
  ·cases h
  ·exact h
 have hcut : ∀ b, cutX X ι σ D0 b → cutX X ι σ D b := fun b h => ⟨h.1, fun id hid => h.2 id (hsub id hid)⟩
 have hcutlt : ∀ b, cutX X ι σ D b → b < w.heap.size := fun b h => hw.xlt b h.1
 have hw0 := dropL_wf hw D
 have fin : ∀ (G : List Nat) (Xf : Nat → Prop) (ι' : Nat → Nat), (∀ g ∈ G, σ1 g ≠ none) → (∀ b, Xf b ↔ cutX X ι σ D b ∨ ∃ g ∈ G, ι1 g = b) →
  Thr w' Xf ι1 G (dropL σ D) n ι (thaw (dropL σ D) n r).2.1 (thaw (dropL σ D) n r).2.2 ι' →
  Ext w w' X Xf ι ι' σ (thaw (dropL σ D) n r).2.1 n (thaw (dropL σ D) n r).2.2 lk := by
  intro G Xf ι' hG hXf ht
  have hblk : ∀ g ∈ G, w.heap.size ≤ ι1 g := fun g hg => hnew g (hG g hg)
  refine ⟨ht.le, he.os, he.tape, he.output, he.size, fun b hb _ => hheap b hb, he.cells, he.loops, ht.ix, ?_, ?_, hw.xlt, ?_, ?_⟩
  ·intro b hb hx
   rcases (hXf b).1 hx with h | ⟨g, hg, e⟩
   ·exact h.1
   ·have := hblk g hg; omega
  ·intro b hx ho
   refine (hXf b).2 (.inl ⟨hx, fun id hid hs e => ho ⟨id, hlk id hid, hs, e⟩⟩)
  ·intro id hid hs hlt
   by_cases hn : id < n
   ·rw [ht.old id hn] at hs
    refine ⟨id, hid, ?_, (ht.ix id hn).symm⟩
    intro h0
    simp only [dropL, h0, ite_self] at hs
    exact hs rfl
   ·obtain ⟨g, hg, e⟩ := ht.new id (by omega) hs
    have := hblk g hg
    omega
  ·intro id hid
   rw [ht.old id (by omega)]
   have : id ∉ D := fun h => by have := hlk id h; omega
   simp [dropL, this]
 have hmv : ∀ {Xf : Nat → Prop}, (∀ b, b < w.heap.size → (Xf b ↔ cutX X ι σ D b)) → (∀ b, Xf b → b < w'.heap.size) → WF w' Xf ι (dropL σ D) n := fun h1 h2 =>
  hw0.move he.size hheap (fun _ _ => rfl) h1 (Nat.le_refl _) h2
 by_cases hm : m = .own
 ·subst hm
  simp only [back] at hback
  obtain ⟨hg, hnd⟩ := hback
  have hlive := giv_live _ _ _ hg
  have hXf : ∀ b, b < w.heap.size → ((cutX X ι σ D b ∨ ∃ g ∈ gids σ1 DEEP v, ι1 g = b) ↔ cutX X ι σ D b) := fun b hb =>
   ⟨fun h => h.resolve_right (fun ⟨g, hg, e⟩ => by have := hnew g (hlive g hg); omega), .inl⟩
  have hlt : ∀ b, (cutX X ι σ D b ∨ ∃ g ∈ gids σ1 DEEP v, ι1 g = b) → b < w'.heap.size := fun b h => by
   rcases h with h | ⟨g, hg, e⟩
   ·exact Nat.lt_of_lt_of_le (hcutlt b h) he.size
   ·exact e ▸ hw1.xlt _ (hw1.own g (hlive g hg))
  have hfl : flat r = true ∨ ∀ b, (cutX X ι σ D b ∨ ∃ g ∈ gids σ1 DEEP v, ι1 g = b) → X1 b := by
   cases hf : flat r with
   | true => exact .inl rfl
   | false =>
     right
     intro b h
     have hDD : D = D0 := by rw [hD, hf]; simp
     rcases h with h | ⟨g, hg, e⟩
     ·exact hX1 b (hDD ▸ h)
     ·exact e ▸ hw1.own g (hlive g hg)
  obtain ⟨ι', ht, hrep, -⟩ := giv_ok (Xf := fun b => cutX X ι σ D b ∨ ∃ g ∈ gids σ1 DEEP v, ι1 g = b) hw1 DEEP v r u hg hfl hr1 (fun g hg => .inr ⟨g, hg, rfl⟩) hnd (dropL σ D) n ι
   (hmv hXf hlt) (fun g hg id hs e => by
    have h1 := hcutlt _ (hw0.own id hs)
    have h2 := hnew g (hlive g hg)
    omega)
  exact ⟨_, ι', ht.wf, hrep, fin _ _ ι' hlive (fun b => Iff.rfl) ht⟩
 ·have hfrz : frz σ1 DEEP v = some r := by
   cases m <;> simp only [back] at hback <;> first | exact hback | exact absurd rfl hm
  have hth := thaw_frz DEEP v r hfrz (dropL σ D) n
  rw [hth]
  have hrep := frz_rep (ι' := ι) (n' := n) hw1 (D := rch σ1 DEEP v) DEEP v r u hfrz hr1 (fun _ h => h)
  refine ⟨cutX X ι σ D, ι, hmv (fun _ _ => Iff.rfl) (fun b h => Nat.lt_of_lt_of_le (hcutlt b h) he.size), ?_, ?_⟩
  ·cases hf : flat r with
   | true => exact flat_rep hrep hf
   | false =>
     have hDD : D = D0 := by rw [hD, hf]; simp
     refine hrep.move (Nat.le_refl _) (fun _ _ _ => rfl) (fun _ c _ _ h => ⟨c, h, rfl⟩) (fun _ _ => rfl) (fun b _ h => ?_) (Nat.le_refl _)
     rw [hDD] at h
     refine ⟨hX1 b h, fun id hid hs e => ?_⟩
     have h1 := hnew id hs
     have h2 := hw.xlt b h.1
     omega
  ·have ht : Thr w' (cutX X ι σ D) ι1 [] (dropL σ D) n ι (dropL σ D) n ι := Thr.refl (hmv (fun _ _ => Iff.rfl) (fun b h => Nat.lt_of_lt_of_le (hcutlt b h) he.size))
   have := fin [] (cutX X ι σ D) ι (by simp) (by simp) (by rw [hth]; exact ht)
   rwa [hth] at this
theorem args_frz (hw : WF w X ι σ n) {args ts : List V} {us : Array Value} (h : args.mapM (frz σ DEEP) = some ts) (hs : us.size = args.length)
 (hr : ∀ (i : Nat) (e : V) (u : Value), args[i]? = some e → us[i]? = some u → Rep w X ι n e u) :
 us.size = ts.length ∧ ∀ (i : Nat) (e : V) (u : Value), ts[i]? = some e → us[i]? = some u → Rep w (cutX X ι σ (args.flatMap (rch σ DEEP))) (fun _ => 0) 0 e u := by
 refine ⟨hs.trans (mapM_get' _ _ _ h).1, fun i e u he hu => ?_⟩
 obtain ⟨a, ha, hf⟩ := mapM_back h he
 exact frz_rep hw DEEP a e u hf (hr i a u ha hu) (fun id hid => List.mem_flatMap.2 ⟨a, List.mem_of_getElem? ha, hid⟩)
end
end Go.Q
end

section
/- Records of loops over functions in memory. -/
namespace Go.Q
variable [Link]
section
variable {w w' : World} {X X' : Nat → Prop} {ι ι' : Nat → Nat} {σ σ' : Sto} {n n' lk : Nat}
theorem cell_put {b0 : Nat} {o o0 : Obj} (h0 : w.heap[b0]? = some o0) (hc : ∀ c t f, o0 ≠ .cells c t f) {b k : Nat} {u : Value} (h : w.cell? ⟨b, k, none⟩ = some u)
 (hv : ∀ c t, o0 ≠ .pending c t) : (w.putObj b0 o).cell? ⟨b, k, none⟩ = some u := by
 have hb : b ≠ b0 := by
  rintro rfl
  simp only [World.cell?, h0] at h
  cases o0 <;> simp_all
 simp only [World.cell?, World.putObj_heap_other hb] at *
 exact h
theorem Rep.put {b0 : Nat} {o o0 : Obj} (h0 : w.heap[b0]? = some o0) (hc : ∀ c t f, o0 ≠ .cells c t f) (hv : ∀ c t, o0 ≠ .pending c t) {v : V} {u : Value} (h : Rep w X ι n v u) :
 Rep (w.putObj b0 o) X ι n v u := by
 induction h with
 | int k m => exact .int k m
 | bool b => exact .bool b
 | str s => exact .str s
 | nilS => exact .nilS
 | sl sz xs b o' c u hc' hX hb hs hm hr ih =>
   exact .sl sz xs b o' c u hc' hX (by simpa using hb) hs (fun i x j e hx he => cell_put h0 hc (hm i x j e hx he) hv) ih
 | slE sz c a => exact .slE sz c a
 | ref id off len sz c o' cells ty fz hid hc' ho hm hz =>
   have hb : ι id ≠ b0 := by
    intro e; rw [e, h0] at hm; cases hm; exact hc _ _ _ rfl
   exact .ref id off len sz c o' cells ty fz hid hc' ho (by rw [World.putObj_heap_other hb]; exact hm) hz
 | agg cs us hl hr ih => exact .agg cs us hl ih
 | tup cs us hl hr ih => exact .tup cs us hl ih
 | nilP => exact .nilP
 | ptr id sz i j hid hb => exact .ptr id sz i j hid (by simpa using hb)
 | box cs b o' u hX hb h1' hm hr ih => exact .box cs b o' u hX (by simpa using hb) h1' (fun j e he => cell_put h0 hc (hm j e he) hv) ih
 | fn f cs us hl hr ih => exact .fn f cs us hl ih
 | bnd f cs us hl hr ih => exact .bnd f cs us hl ih
 | yld l hid hb => exact .yld l hid (by simpa using hb)
 | nilF => exact .nilF
 | iface t x u hr ih => exact .iface t x u ih
 | nilI => exact .nilI
 | nilM => exact .nilM
 | mp id hid hb => exact .mp id hid (by simpa using hb)
 | it id hid hb => exact .it id hid (by simpa using hb)
 | undef => exact .undef
theorem MI.put {b0 : Nat} {o o0 : Obj} (h0 : w.heap[b0]? = some o0) (hc : ∀ c t f, o0 ≠ .cells c t f) (hv : ∀ c t, o0 ≠ .pending c t) {b : Nat} {q : Ob} (hb : b ≠ b0) (h : MI w X ι n b q) :
 MI (w.putObj b0 o) X ι n b q := by
 cases q with
 | row => trivial
 | loop => trivial
 | map es clk =>
   obtain ⟨mes, a1, a2, a3⟩ := h
   exact ⟨mes, by rw [World.putObj_heap_other hb]; exact a1, a2, fun i e me he hm => let ⟨x, y, z⟩ := a3 i e me he hm; ⟨x, y.put h0 hc hv, z.put h0 hc hv⟩⟩
 | iter m since seen last => exact ⟨h.1, by simpa using h.2.1, by rw [World.putObj_heap_other hb]; exact h.2.2⟩
theorem put_dead (hw : WF w X ι σ n) {b0 : Nat} {o o0 : Obj} (h0 : w.heap[b0]? = some o0) (hc : ∀ c t f, o0 ≠ .cells c t f) (hv : ∀ c t, o0 ≠ .pending c t)
 (hd : ∀ id, σ id ≠ none → ι id ≠ b0) : WF (w.putObj b0 o) X ι σ n where
 row := fun id sz xs h => by
  obtain ⟨cells, ty, u, a1, a2, a3, a4, a5⟩ := hw.row id sz xs h
  exact ⟨cells, ty, u, by rw [World.putObj_heap_other (hd id (by rw [h]; simp))]; exact a1, a2, a3, a4, fun i x j e hx he => (a5 i x j e hx he).put h0 hc hv⟩
 loop := fun l env ps a b st pend h => by
  obtain ⟨r, a1, a2⟩ := hw.loop l env ps a b st pend h
  exact ⟨r, by rw [World.putObj_heap_other (hd l (by rw [h]; simp))]; exact a1, a2.hst, a2.hpend, a2.hpn, a2.hps, a2.code, fun t => (a2.rep t).put h0 hc hv⟩
 own := hw.own
 inj := hw.inj
 dom := hw.dom
 xlt := fun b h => by simpa using hw.xlt b h
 mi := fun id q h => (hw.mi id q h).put h0 hc hv (hd id (by rw [h]; simp))
theorem put_loop (hw : WF w X ι σ n) {l : Nat} {r r' : Loop} {o : Ob} (h : σ l = some o) (h0 : w.heap[ι l]? = some (.loop r)) (hl : lk ≤ l)
 {env : Nat → V} {ps : List Nat} {a b : AC} {st : LSt} {pend : Option Ex} (hr : LoopRep w X ι n r' env ps a b st pend) :
 WF (w.putObj (ι l) (.loop r')) X ι (upd σ l (some (.loop env ps a b st pend))) n ∧
  Ext w (w.putObj (ι l) (.loop r')) X X ι ι σ (upd σ l (some (.loop env ps a b st pend))) n n lk := by
 have hlt := (Array.getElem?_eq_some_iff.1 h0).1
 have hc : ∀ c t f, Obj.loop r ≠ .cells c t f := fun _ _ _ h => by cases h
 have hv : ∀ c t, Obj.loop r ≠ .pending c t := fun _ _ h => by cases h
 have hne : ∀ id, σ id ≠ none → id ≠ l → ι id ≠ ι l := fun id h1 h2 e => h2 (hw.inj id l h1 (by rw [h]; simp) e)
 have key : ∀ id, upd σ l (some (.loop env ps a b st pend)) id ≠ none → σ id ≠ none := fun id hh => by
  by_cases e : id = l
  ·rw [e, h]; simp
  ·simpa [upd, e] using hh
 constructor
 ·constructor
  ·intro id sz xs hh
   by_cases e : id = l
   ·subst e; simp [upd] at hh
   ·simp only [upd, e, if_false] at hh
    obtain ⟨cells, ty, u, a1, a2, a3, a4, a5⟩ := hw.row id sz xs hh
    exact ⟨cells, ty, u, by rw [World.putObj_heap_other (hne id (by rw [hh]; simp) e)]; exact a1, a2, a3, a4, fun i x j e hx he => (a5 i x j e hx he).put h0 hc hv⟩
  ·intro id env' ps' a' b' st' pend' hh
   by_cases e : id = l
   ·subst e
    simp only [upd, if_true, Option.some.injEq, Ob.loop.injEq] at hh
    obtain ⟨rfl, rfl, rfl, rfl, rfl, rfl⟩ := hh
    exact ⟨r', World.putObj_heap_same hlt, hr.hst, hr.hpend, hr.hpn, hr.hps, hr.code, fun t => (hr.rep t).put h0 hc hv⟩
   ·simp only [upd, e, if_false] at hh
    obtain ⟨q, a1, a2⟩ := hw.loop id _ _ _ _ _ _ hh
    exact ⟨q, by rw [World.putObj_heap_other (hne id (by rw [hh]; simp) e)]; exact a1, a2.hst, a2.hpend, a2.hpn, a2.hps, a2.code, fun t => (a2.rep t).put h0 hc hv⟩
  ·exact fun id hh => hw.own id (key id hh)
  ·exact fun i j h1 h2 => hw.inj i j (key i h1) (key j h2)
  ·exact fun id hh => hw.dom id (key id hh)
  ·exact fun b hb => by simpa using hw.xlt b hb
  ·intro id q hh
   by_cases e : id = l
   ·subst e
    simp only [upd, if_true, Option.some.injEq] at hh
    subst hh
    trivial
   ·simp only [upd, e, if_false] at hh
    exact (hw.mi id q hh).put h0 hc hv (hne id (by rw [hh]; simp) e)
 ·exact {
   hn := Nat.le_refl _, os := rfl, tape := rfl, output := rfl, size := by simp
   heap := fun b _ ho => World.putObj_heap_other (fun e => ho ⟨l, hl, by rw [h]; simp, e.symm⟩)
   cells := fun b c t f hb => by
    have hb' : b ≠ ι l := by rintro rfl; rw [h0] at hb; cases hb
    exact ⟨c, by rw [World.putObj_heap_other hb']; exact hb, rfl⟩
   loops := fun b q hb => by
    by_cases e : b = ι l
    ·exact ⟨r', by rw [e]; exact World.putObj_heap_same hlt⟩
    ·exact ⟨q, by rw [World.putObj_heap_other e]; exact hb⟩
   hι := fun _ _ => rfl, xnew := fun _ _ h => h, xold := fun _ h _ => h, xlt := hw.xlt
   own := fun id h1 h2 _ => ⟨id, h1, key id h2, rfl⟩
   lock := fun id h1 => by simp [upd]; omega }
theorem end_loop (hw : WF w X ι σ n) {l : Nat} {r r' : Loop} (h : σ l ≠ none) (h0 : w.heap[ι l]? = some (.loop r)) (hl : lk ≤ l) :
 WF (w.putObj (ι l) (.loop r')) X ι (upd σ l none) n ∧ Ext w (w.putObj (ι l) (.loop r')) X X ι ι σ (upd σ l none) n n lk := by
 have hc : ∀ c t f, Obj.loop r ≠ .cells c t f := fun _ _ _ h => by cases h
 have hv : ∀ c t, Obj.loop r ≠ .pending c t := fun _ _ h => by cases h
 obtain ⟨d1, d2⟩ := drop_obj hw l hl
 have key : ∀ id, upd σ l none id ≠ none → σ id ≠ none ∧ id ≠ l := fun id hh => by
  by_cases e : id = l
  ·simp [upd, e] at hh
  ·exact ⟨by simpa [upd, e] using hh, e⟩
 refine ⟨put_dead d1 h0 hc hv (fun id hh e => (key id hh).2 (hw.inj id l (key id hh).1 h e)), ?_⟩
 exact {
  hn := Nat.le_refl _, os := rfl, tape := rfl, output := rfl, size := by simp
  heap := fun b _ ho => World.putObj_heap_other (fun e => ho ⟨l, hl, h, e.symm⟩)
  cells := fun b c t f hb => by
   have hb' : b ≠ ι l := by rintro rfl; rw [h0] at hb; cases hb
   exact ⟨c, by rw [World.putObj_heap_other hb']; exact hb, rfl⟩
  loops := fun b q hb => by
   by_cases e : b = ι l
   ·exact ⟨r', by rw [e]; exact World.putObj_heap_same (Array.getElem?_eq_some_iff.1 h0).1⟩
   ·exact ⟨q, by rw [World.putObj_heap_other e]; exact hb⟩
  hι := fun _ _ => rfl, xnew := fun _ _ h => h, xold := fun _ h _ => h, xlt := hw.xlt
  own := fun id h1 h2 _ => ⟨id, h1, (key id h2).1, rfl⟩
  lock := fun id h1 => by simp [upd]; omega }
theorem lay_block (hw : WF w X ι σ n) (o : Obj) : WF (w.alloc o) X ι σ n ∧ Ext w (w.alloc o) X X ι ι σ σ n n lk := by
 refine ⟨hw.move (by simp) (fun b hb => Go.RowKit.Below.heap_alloc _ _ _ hb) (fun _ _ => rfl) (fun _ _ => Iff.rfl) (Nat.le_refl _) (fun b h => by have := hw.xlt b h; simp; omega), ?_⟩
 exact {
  hn := Nat.le_refl _, os := rfl, tape := rfl, output := rfl, size := by simp
  heap := fun b hb _ => Go.RowKit.Below.heap_alloc _ _ _ hb
  cells := fun b c t f h => ⟨c, by rw [Go.RowKit.Below.heap_alloc _ _ _ (Array.getElem?_eq_some_iff.1 h).1]; exact h, rfl⟩
  loops := fun b r h => ⟨r, by rw [Go.RowKit.Below.heap_alloc _ _ _ (Array.getElem?_eq_some_iff.1 h).1]; exact h⟩
  hι := fun _ _ => rfl, xnew := fun _ _ h => h, xold := fun _ h _ => h, xlt := hw.xlt
  own := fun id h1 h2 _ => ⟨id, h1, h2, rfl⟩
  lock := fun _ _ => rfl }
theorem new_loop (hw : WF w X ι σ n) (hl : lk ≤ n) {r : Loop} {env : Nat → V} {ps : List Nat} {a b : AC} {st : LSt} {pend : Option Ex} (hr : LoopRep w X ι n r env ps a b st pend) :
 WF (w.alloc (.loop r)) (addX X w.heap.size) (setι ι n w.heap.size) (upd σ n (some (.loop env ps a b st pend))) (n + 1) ∧
  Ext w (w.alloc (.loop r)) X (addX X w.heap.size) ι (setι ι n w.heap.size) σ (upd σ n (some (.loop env ps a b st pend))) n (n + 1) lk := by
 have hm1 : WF (w.alloc (.loop r)) (addX X w.heap.size) (setι ι n w.heap.size) σ (n + 1) :=
  hw.move (by simp) (fun b hb => Go.RowKit.Below.heap_alloc _ _ _ hb) (fun id h => by simp [setι]; omega)
   (fun b hb => ⟨fun h => by rcases h with h | h; exact h; omega, fun h => .inl h⟩) (by omega)
   (fun b h => by rcases h with h | h; have := hw.xlt b h; simp; omega; simp; omega)
 have hn : σ n = none := by
  cases h : σ n with
  | none => rfl
  | some o => have := hw.dom n (by rw [h]; simp); omega
 have hlt : ∀ i, σ i ≠ none → setι ι n w.heap.size i < w.heap.size := fun i hi => by
  have := hw.dom i hi
  have h2 := hw.xlt _ (hw.own i hi)
  simp [setι]; split <;> omega
 constructor
 ·constructor
  ·intro id sz xs h
   by_cases e : id = n
   ·subst e; simp [upd] at h
   ·simp only [upd, e, if_false] at h; exact hm1.row id sz xs h
  ·intro l env' ps' a' b' st' pend' h
   by_cases e : l = n
   ·subst e
    simp only [upd, if_true, Option.some.injEq, Ob.loop.injEq] at h
    obtain ⟨rfl, rfl, rfl, rfl, rfl, rfl⟩ := h
    refine ⟨r, by simpa [setι] using World.alloc_heap_new w (.loop r), ?_⟩
    exact hr.move (by simp) (fun b hb _ => Go.RowKit.Below.heap_alloc _ _ _ hb)
     (fun b c t f hh => ⟨c, by rw [Go.RowKit.Below.heap_alloc _ _ _ (Array.getElem?_eq_some_iff.1 hh).1]; exact hh, rfl⟩)
     (fun id h => by simp [setι]; omega) (fun b hb h => by rcases h with h | h; exact h; omega) (by omega)
   ·simp only [upd, e, if_false] at h
    exact hm1.loop l _ _ _ _ _ _ h
  ·intro id h
   by_cases e : id = n
   ·subst e; right; simp [setι]
   ·simp only [upd, e, if_false] at h; exact hm1.own id h
  ·intro id id' h h' he
   by_cases e : id = n <;> by_cases e' : id' = n
   ·omega
   ·simp only [upd, e', if_false] at h'
    have := hlt id' h'
    rw [← he, e] at this; simp [setι] at this
   ·simp only [upd, e, if_false] at h
    have := hlt id h
    rw [he, e'] at this; simp [setι] at this
   ·simp only [upd, e, e', if_false] at h h'
    exact hm1.inj id id' h h' he
  ·intro id h
   by_cases e : id = n
   ·omega
   ·simp only [upd, e, if_false] at h; exact hm1.dom id h
  ·exact hm1.xlt
  ·intro id q h
   by_cases e : id = n
   ·subst e
    simp only [upd, if_true, Option.some.injEq] at h
    subst h
    trivial
   ·simp only [upd, e, if_false] at h; exact hm1.mi id q h
 ·exact {
   hn := by omega, os := rfl, tape := rfl, output := rfl, size := by simp
   heap := fun b hb _ => Go.RowKit.Below.heap_alloc _ _ _ hb
   cells := fun b c t f h => ⟨c, by rw [Go.RowKit.Below.heap_alloc _ _ _ (Array.getElem?_eq_some_iff.1 h).1]; exact h, rfl⟩
   loops := fun b r h => ⟨r, by rw [Go.RowKit.Below.heap_alloc _ _ _ (Array.getElem?_eq_some_iff.1 h).1]; exact h⟩
   hι := fun id h => by simp [setι]; omega
   xnew := fun b hb h => by rcases h with h | h; exact h; omega
   xold := fun b h _ => .inl h
   xlt := hw.xlt
   own := fun id hl' h hb => by
    by_cases e : id = n
    ·simp [setι, e] at hb
    ·simp only [setι, upd, e, if_false] at *
     exact ⟨id, hl', h, rfl⟩
   lock := fun id h => by simp [upd]; omega }
end
end Go.Q
end

section
/- Loaded code, its static parts worked in. -/
namespace Go.Q
def fits (N : Nat) : Option Nat → Bool
 | some d => d < N
 | none => true
def cOper (P : Program) (N : Nat) (ops : Array Oper) (o : Oper) : Option AOp :=
 match cOp P o with
 | none => none
 | some ai =>
   if fits N o.dst then
    match o.guard with
    | none => some ⟨o.dst, none, ai⟩
    | some (j, want) => match (ops[j]?).bind (·.dst) with
      | some t => some ⟨o.dst, some (t, want), ai⟩
      | none => none
   else none
def AI.opds : AI → List Opd
 | .mov x | .box x | .load _ _ x | .nilck x | .eqN _ x | .eqF _ x | .un _ x | .conv _ x | .mksl _ _ _ x | .faddr x _ | .fld _ _ _ x | .ext x _ | .len x | .lenS x | .mkif _ x | .tas _ _ _ x => [x]
 | .pick c a b => [c, a, b]
 | .alloc _ => []
 | .build _ ps => ps.map (·.2.2)
 | .lit _ es | .mkfn _ es | .mkbnd _ es | .min es | .max es | .call _ es | .prim _ es => es
 | .callv g es => g :: es
 | .inv x _ es => x :: es
 | .slice3 _ x l h m => x :: (l.toList ++ [h, m])
 | .store _ x y | .bin _ x y | .eqB _ x y | .eqA _ _ x y | .iaddr _ x y | .iaddrA _ _ x y | .idxA _ _ _ x y | .idxS x y | .append _ _ x y => [x, y]
 | .slice _ x l h | .sliceS x l h => x :: (l.toList ++ h.toList)
 | .mkmap => []
 | .mlen m | .range m | .next m | .entry m => [m]
 | .mget _ _ _ m k | .ment _ _ m k | .mdel _ m k => [m, k]
 | .mupd _ m k v | .mest m k v => [m, k, v]
def AI.pure : AI → Bool
 | .mov _ | .nilck _ | .eqN .. | .eqF .. | .un .. | .conv .. | .faddr .. | .fld .. | .ext .. | .len _ | .lenS _ | .mkif .. | .tas .. | .slice3 .. | .pick .. | .build .. | .mkfn .. | .mkbnd .. | .min _ | .max _
 | .bin .. | .eqB .. | .eqA .. | .iaddr .. | .iaddrA .. | .idxA .. | .idxS .. | .slice .. | .sliceS .. => true
 | _ => false
def AI.lays (own : Nat → Bool) : AI → Bool
 | .alloc _ | .box _ | .lit .. | .mksl .. | .append .. | .mkmap | .range _ | .prim .. => true
 | .call f _ => own f
 | _ => false
def AOp.reads (o : AOp) : List Nat := (o.op.opds.filterMap fun x => match x with | .tmp t => some t | .con _ => none) ++ (match o.guard with | some (t, _) => [t] | none => [])
def cBef (ops : List Oper) : Option (List Nat) :=
 let go := ops.foldl (init := some ([] : List Nat)) fun acc o => acc.bind fun (l : List Nat) =>
  let i := l.length
  (o.after.toList.foldl (init := some 0) fun (m : Option Nat) e => m.bind fun m =>
   if Region.binds .any e then (l[e.on]?).map fun m' => m ||| m' ||| (1 <<< e.on) else some m).map fun m => l ++ [m]
 go
def apart (bef : List Nat) (i j : Nat) : Bool := !((bef[i]?).getD 0).testBit j && !((bef[j]?).getD 0).testBit i
def meets : Option Nat → List Nat → Bool
 | some d, l => l.contains d
 | none, _ => false
def DOp.calm (d : DOp) : Bool := !d.pure && !d.wr
def DOp.lo (d : DOp) : Nat := d.low.getD d.rank
def lowOk (a b : DOp) : Bool := !(a.calm && b.calm) || (List.range a.rank).all fun r => decide (r < a.lo) || a.hid.contains r || b.hid.contains r
def mgOk : AI → AI → Bool
 | .ment kk z (.tmp m) (.tmp k), .mget false kk' z' (.tmp m') (.tmp k') => decide (kk = kk') && m == m' && k == k' && (match z, z' with
   | .int j x, .int j' x' => decide (j = j') && x == x'
   | _, _ => false)
 | _, _ => false
def mgPair (a b : DOp) : Bool := mgOk a.o.op b.o.op && a.wr && !a.pure && !b.pure && !b.wr && !a.lays && !b.lays && b.low.isNone && b.hid.isEmpty && a.rank == b.rank &&
 !meets a.o.dst b.o.reads && !meets b.o.dst a.o.reads && !(meets a.o.dst b.o.dst.toList)
def pairOk0 (a b : DOp) : Bool :=
 !meets a.o.dst b.o.reads && !meets b.o.dst a.o.reads && !(meets a.o.dst b.o.dst.toList) && (!a.wr || b.pure) && (!b.wr || a.pure) &&
 (!(b.calm && a.lays) || b.hid.contains a.rank) && (!(a.calm && b.lays) || a.hid.contains b.rank) && lowOk a b && lowOk b a
def pairOk (a b : DOp) : Bool := pairOk0 a b || mgPair a b || mgPair b a
def befOk (bef : List Nat) (ops : List Oper) : Bool :=
 ops.zipIdx.all fun (o, i) => (o.after.toList.all fun e => !Region.binds .any e || e.on < i) && (List.range ops.length).all fun j => !((bef[i]?).getD 0).testBit j ||
  (j < i && o.after.toList.any fun e => Region.binds .any e && (e.on == j || ((bef[e.on]?).getD 0).testBit j))
def okDraw (bef : List Nat) (tot : Nat) : List DOp → Nat → Bool
 | [], _ => true
 | d :: ds, i => (d.rank + (if d.lays then 1 else 0) ≤ tot) && (!d.pure || (d.o.op.pure && !d.lays)) && (d.lo ≤ d.rank) &&
  (ds.zipIdx.all fun (b, k) => (d.rank + (if d.lays then 1 else 0) ≤ b.rank) && (!apart bef i (i + 1 + k) || pairOk d b)) && okDraw bef tot ds (i + 1)
def V.plain1 : V → Bool
 | .int .. | .bool _ | .str _ | .nilS | .nilP | .nilF | .nilI | .fn _ [] => true
 | _ => false
def V.plain : V → Bool
 | .agg cs => cs.all V.plain1
 | v => v.plain1
def bar (bef : List Nat) (n h : Nat) : Bool := (List.range n).all fun j => j < h || (List.range h).all fun i => ((bef[j]?).getD 0).testBit i
def mkWin (bef : List Nat) (own : Nat → Bool) (lo : Nat) (os : List AOp) : List DOp × Nat :=
 let n := os.length
 let pu := os.map fun o => o.op.pure
 let la := os.map fun o => o.op.lays own
 let at' := fun (l : List Bool) i => (l[i]?).getD false
 let ap := fun i j => apart bef (lo + i) (lo + j)
 let rank := fun i => ((la.take i).filter id).length
 let wr := os.zipIdx.map fun (o, i) => match o.op with
  | .store .. | .append .. | .mupd .. | .ment .. | .mest .. | .mdel .. | .prim .. => (List.range n).all fun j => j == i || !ap i j || at' pu j || (match os[j]? with | some p => mgOk o.op p.op | none => false)
  | _ => false
 let hid := fun i => if at' pu i || at' wr i then [] else ((List.range n).filter fun j => j != i && ap i j && at' la j).map rank
 let low := fun (o : AOp) i => match o.op with
  | .store .. | .append .. => if at' wr i then none else
    (List.range (rank i + 1)).find? fun lo => (List.range (rank i)).all fun r => r < lo || (hid i).contains r || (List.range n).all fun j => j == i || !ap i j || at' pu j || (hid j).contains r
  | _ => none
 (os.zipIdx.map fun (o, i) => (⟨o, at' pu i, at' wr i, at' la i, rank i, hid i, low o i⟩ : DOp),
  (la.filter id).length)
def ones (bef : List Nat) (n : Nat) : Nat → Nat → Nat
 | 0, _ => 0
 | k + 1, h => if h < n && bar bef n (h + 1) then ones bef n k (h + 1) + 1 else 0
def some' (bef : List Nat) (n : Nat) : Nat → Nat → Nat
 | 0, _ => 0
 | k + 1, h => if bar bef n h && bar bef n (h + 1) then 0 else some' bef n k (h + 1) + 1
def okOps (ops : List Oper) (os : List AOp) : Bool :=
 (ops.zip os).all (fun p => p.1.op.operands.toList.all fun x => match x with | .tmp t => p.2.reads.contains t | _ => true) &&
 os.all (fun o => o.op.opds.all fun x => match x with | .con v => v.plain | .tmp _ => true)
def mkSegs (bef : List Nat) (own : Nat → Bool) (n : Nat) : Nat → Nat → List AOp → Option (List Seg)
 | 0, _, os => if os.isEmpty then some [] else none
 | k + 1, lo, os => if os.isEmpty then some [] else
   let m := some' bef n (n - lo) lo
   let p := ones bef n (n - (lo + m)) (lo + m)
   let w := mkWin bef own lo (os.take m)
   if 0 < m + p && m + p ≤ os.length && bar bef n (lo + m) && okDraw bef w.2 w.1 lo && (List.range p).all (fun i => bar bef n (lo + m + (i + 1))) then
    (mkSegs bef own n k (lo + m + p) (os.drop (m + p))).map fun gs => ⟨w.1, w.2, (os.drop m).take p⟩ :: gs
   else none
def cDraw (P : Program) (N : Nat) (own : Nat → Bool) (ops : Array Oper) : Option (List Seg) := do
 let bef ← cBef ops.toList
 let os ← ops.toList.mapM (cOper P N ops)
 if befOk bef ops.toList && okOps ops.toList os then mkSegs bef own os.length (os.length + 1) 0 os else none
def cCode (P : Program) (N : Nat) (own : Nat → Bool) : Code → Option AC
 | .skip => some .skip
 | .label _ => some .skip
 | .scope c => cCode P N own c
 | .exit id => some (.exit id)
 | .ret => some .ret
 | .seq a b => do some (.seq (← cCode P N own a) (← cCode P N own b))
 | .cond c a b => do some (.cond (← cOpd c) (← cCode P N own a) (← cCode P N own b))
 | .block id c => (cCode P N own c).map (.block id)
 | .loop c => (cCode P N own c).map .loop
 | .region _ ops draw =>
   if draw then (cDraw P N own ops).map .regd else (ops.toList.mapM (cOper P N ops)).map .reg
 | .rangeFunc g ps a b => do
   let g' ← cOpd g
   let a' ← cCode P N own a
   let b' ← cCode P N own b
   if ps.toList.all (· < N) then some (.rangeF g' ps.toList a' b') else none
 | _ => none
def cRes (P : Program) : ResultVar → Option Res
 | .tmp t => some (.tmp t)
 | .cell a ty => do
   let i ← ti P ty
   if i.agg || i.size == 1 then some (.cell a i.agg i.size) else none
def cFunc (P : Program) (own : Nat → Bool) (f : Func) : Option Fn := do
 let c ← f.body
 let b ← cCode P f.ntmps own c
 let rs ← f.results.toList.mapM (cRes P)
 if f.params.size + f.nfree ≤ f.ntmps then some ⟨f.params.size + f.nfree, f.ntmps, rs, b⟩ else none
end Go.Q
end

section
/- Operations, calls among them, run as the evaluator says. -/
namespace Go.Q
variable [Link]
class Glob where
 inv : World → (Nat → Prop) → Prop
 move : ∀ {w w' : World} {X X' : Nat → Prop}, (∀ b c t f, w.heap[b]? = some (.cells c t f) → ¬ X b → w'.heap[b]? = w.heap[b]? ∧ ¬ X' b) → inv w X → inv w' X'
theorem Ext.inv [Glob] {w w' : World} {X X' : Nat → Prop} {ι ι' : Nat → Nat} {σ σ' : Sto} {n n' lk : Nat} (he : Ext w w' X X' ι ι' σ σ' n n' lk) (hw : WF w X ι σ n) (h : Glob.inv w X) : Glob.inv w' X' :=
 Glob.move (fun b c t f hb hx => by
  have hlt := (Array.getElem?_eq_some_iff.1 hb).1
  exact ⟨he.heap b hlt (fun ho => hx (ho.sub hw)), fun hx' => hx (he.xnew b hlt hx')⟩) h
theorem Glob.sub [Glob] {w : World} {X X' : Nat → Prop} (h : Glob.inv w X) (hs : ∀ b, X' b → X b) : Glob.inv w X' := Glob.move (fun b c t f hb hx => ⟨rfl, fun hx' => hx (hs b hx')⟩) h
variable [Glob]
def ownB (T : Tab) (f : Nat) : Bool := decide (T.mode f = .own)
def Ent (P : Program) (f : Nat) : Prop := ∃ F, P.funcs[f]? = some F ∧ (F.name == "runtime.NumGoroutine") = false ∧ F.body.isNone = false
theorem run_callFunc {P : Program} {f : Nat} (h : Ent P f) (args : Array Value) (w : World) : (callFunc f args).run P w = .ok (.enter f args) w := by
 obtain ⟨F, h1, h2, h3⟩ := h
 have h4 : F.name ≠ "runtime.NumGoroutine" := by simpa using h2
 have h5 : F.body ≠ none := by intro e; rw [e] at h3; simp at h3
 simp [callFunc, Sem.run_bind, h1, h4, h5]
def Reps (w : World) (X : Nat → Prop) (ι : Nat → Nat) (n : Nat) (vs : List V) (us : Array Value) : Prop :=
 us.size = vs.length ∧ ∀ (i : Nat) (e : V) (u : Value), vs[i]? = some e → us[i]? = some u → Rep w X ι n e u
def roundEnd (env : Nat → V) (ps : List Nat) (a b : AC) (ex : Ex) : Ob := .loop env ps a b (if ex = .normal then .ready else .done) (if ex = .normal then none else some ex)
def sndC (P : Program) (T : Tab) : Calls'
 | .pure f ts, Q => Ent P f ∧ ∀ (w : World) (X0 : Nat → Prop) (us : Array Value), (∀ b, X0 b → b < w.heap.size) → Reps w X0 (fun _ => 0) 0 ts us → Glob.inv w X0 →
  CallsIn Fence.wide 0 P f us w fun e w' => ∃ u r, e = .returned u ∧ Q (.val r) ∧ Back (T.mode f) w w' X0 r u
 | .raw f args σ n lk, Q => Ent P f ∧ ∀ (w : World) (X : Nat → Prop) (ι : Nat → Nat) (us : Array Value), WF w X ι σ n → lk ≤ n → Reps w X ι n args us → Glob.inv w X →
  CallsIn Fence.wide 0 P f us w fun e w' => ∃ u v σ' n' X' ι', e = .returned u ∧ Q (.mem v σ' n') ∧ WF w' X' ι' σ' n' ∧ Rep w' X' ι' n' v u ∧ Ext w w' X X' ι ι' σ σ' n n' lk
 | .round l env a b σ n lk, Q => ∀ (w : World) (X : Nat → Prop) (ι : Nat → Nat) (N : Nat) (tmps : Array Value) (fn : FuncId) (ca cb : Code), WF w X ι σ n → lk ≤ n → lk ≤ l →
  (∃ env0 ps a0 b0 pend, σ l = some (.loop env0 ps a0 b0 .ready pend)) → N ≤ tmps.size → Link.rel N ca a → Link.rel N cb b → (∀ t, Rep w X ι n (env t) (tmps.getD t undef)) → Glob.inv w X →
  RoundIn Fence.wide 0 P (ι l) fn tmps ca cb w fun e w' => ∃ ex σ' n' X' ι' env2 ps2 a2 b2 pend2, e = .returned (.bool (decide (ex = .normal))) ∧ Q (.fin ex σ' n') ∧
   σ' l = some (.loop env2 ps2 a2 b2 .busy pend2) ∧ WF w' X' ι' (upd σ' l (some (roundEnd env2 ps2 a2 b2 ex))) n' ∧
   Ext w w' X X' ι ι' σ (upd σ' l (some (roundEnd env2 ps2 a2 b2 ex))) n n' lk
def PrimOk (P : Program) (f : Nat) (p : Prim) : Prop := ∀ (L : Link) (w : World) (X : Nat → Prop) (ι : Nat → Nat) (σ : Sto) (n lk : Nat) (args : List V) (us : Array Value) (r : V × Sto × Nat),
 p args σ n lk = some r → @WF L w X ι σ n → lk ≤ n → Reps w X ι n args us → Glob.inv w X →
 Calls P f us w fun e w' => ∃ u X' ι', e = .returned u ∧ @WF L w' X' ι' r.2.1 r.2.2 ∧ Rep w' X' ι' r.2.2 r.1 u ∧ Ext w w' X X' ι ι' σ r.2.1 n r.2.2 lk
class PrimsOk (P : Program) (T : Tab) : Prop where
 ok : ∀ f p, T.prim f = some p → Ent P f ∧ PrimOk P f p
theorem sndC_mono (P : Program) (T : Tab) : MonoC (sndC P T) := by
 intro j Q Q' hQ h
 cases j with
 | pure f ts =>
   refine ⟨h.1, fun w X0 us h1 h2 hi => (h.2 w X0 us h1 h2 hi).mono fun e w' hh => ?_⟩
   obtain ⟨u, r, a, b, c⟩ := hh
   exact ⟨u, r, a, hQ _ b, c⟩
 | raw f args σ n lk =>
   refine ⟨h.1, fun w X ι us h1 h2 h3 hi => (h.2 w X ι us h1 h2 h3 hi).mono fun e w' hh => ?_⟩
   obtain ⟨u, v, σ', n', X', ι', a, b, c⟩ := hh
   exact ⟨u, v, σ', n', X', ι', a, hQ _ b, c⟩
 | round l env a b σ n lk =>
   intro w X ι N tmps fn ca cb h1 h2 h3 h4 h5 h6 h7 h8 hi
   refine (h w X ι N tmps fn ca cb h1 h2 h3 h4 h5 h6 h7 h8 hi).mono fun e w' hh => ?_
   obtain ⟨ex, σ', n', X', ι', env2, ps2, a2, b2, pend2, p, q, r⟩ := hh
   exact ⟨ex, σ', n', X', ι', env2, ps2, a2, b2, pend2, p, hQ _ q, r⟩
def Fw (r : Option Nat) : Fence := { Fence.wide with round := r }
theorem callsIn_fw {r : Option Nat} {n : Nat} {P : Program} {f : FuncId} {args : Array Value} {w : World} {R : Ending → World → Prop} (h : CallsIn Fence.wide n P f args w R) :
 CallsIn (Fw r) n P f args w R := h
theorem roundIn_fw {r : Option Nat} {n : Nat} {P : Program} {l : Nat} {f : FuncId} {tmps : Array Value} {assign body : Code} {w : World} {R : Ending → World → Prop}
 (h : RoundIn Fence.wide n P l f tmps assign body w R) : RoundIn (Fw r) n P l f tmps assign body w R := h
def OpTo (r : Option Nat) (P : Program) (o : Oper) (a : Act) (w : World) (R : Value → World → Prop) : Prop :=
 ∀ (next : Act → World → Prop) (Qx : Exit → Act → World → Prop), (∀ u w', R u w' → next (a.put o.dst u) w') → o.wpIn (Fw r) 0 P a w next Qx
section
variable {P : Program} {T : Tab} [PrimsOk P T] {w : World} {X : Nat → Prop} {ι : Nat → Nat} {σ : Sto} {n lk : Nat} {ρ' : Opd → V}
def Res' (w : World) (X : Nat → Prop) (ι : Nat → Nat) (σ : Sto) (n lk : Nat) (Q : V → Sto → Nat → Prop) : Value → World → Prop := fun u w' =>
 ∃ v σ' n' X' ι', Q v σ' n' ∧ Rep w' X' ι' n' v u ∧ WF w' X' ι' σ' n' ∧ Ext w w' X X' ι ι' σ σ' n n' lk
theorem opTo_good {r : Option Nat} {ρ : Operand → Value} {o : Oper} {a : Act} {v : V} {σ' : Sto} {n' : Nat} {Q : V → Sto → Nat → Prop} (hd : ∀ c, o.op ≠ .defer c)
 (hxx : execOp a.eval o = execOp ρ o) (hg : Good w X ι σ n lk ((execOp ρ o).run P w) v σ' n') (hq : Q v σ' n') : OpTo r P o a w (Res' w X ι σ n lk Q) := by
 intro next Qx hn
 obtain ⟨w', X', ι', u, hr, h1, h2, h3⟩ := hg
 refine ⟨fun _ _ => trivial, ?_⟩
 rw [Oper.semAt_eq _ _ _ hd, hxx]
 rcases hr with hr | ⟨hr, rfl⟩ <;> rw [hr]
 ·exact hn _ _ ⟨v, σ', n', X', ι', hq, h1, h2, h3⟩
 ·exact hn _ _ ⟨v, σ', n', X', ι', hq, h1, h2, h3⟩
theorem callW_sound {r : Option Nat} {fs : Bool} {f : Nat} {args : List V} {us : Array Value} {Q : V → Sto → Nat → Prop} (hw : WF w X ι σ n) (hi : Glob.inv w X) (hl : lk ≤ n) (hr : Reps w X ι n args us)
 (h : callW T (sndC P T) fs f args σ n lk Q) : Ent P f ∧ CallsIn (Fw r) 0 P f us w fun e w' => ∃ u, e = .returned u ∧ Res' w X ι σ n lk Q u w' := by
 unfold callW at h
 have pure : ∀ {m : Mode}, T.mode f = m → (∃ ts, args.mapM (frz σ DEEP) = some ts ∧ ∃ r, sndC P T (.pure f ts) (fun o => o = .val r) ∧
  ∃ D : List Nat, D = (if flat r then [] else args.flatMap (rch σ DEEP)) ∧ (fs = false → D = []) ∧ (∀ id ∈ D, lk ≤ id) ∧
   Q (thaw (dropL σ D) n r).1 (thaw (dropL σ D) n r).2.1 (thaw (dropL σ D) n r).2.2) →
  Ent P f ∧ CallsIn (Fw r) 0 P f us w fun e w' => ∃ u, e = .returned u ∧ Res' w X ι σ n lk Q u w' := by
  intro m hm ⟨ts, h1, r', ⟨hent, h2⟩, D, h3, h4, h5, h6⟩
  obtain ⟨b1, b2⟩ := args_frz hw h1 hr.1 hr.2
  refine ⟨hent, callsIn_fw ((h2 w (cutX X ι σ (args.flatMap (rch σ DEEP))) us (fun b hb => hw.xlt b hb.1) ⟨b1, b2⟩ (Glob.sub hi (fun b hb => hb.1))).mono fun e w' hh => ?_)⟩
  obtain ⟨u, r2, rfl, he, hb⟩ := hh
  cases he
  obtain ⟨X', ι', c1, c2, c3⟩ := call_back hw hl h3 h5 hb
  exact ⟨u, rfl, _, _, _, X', ι', h6, c2, c1, c3⟩
 split at h
 ·obtain ⟨hent, h2⟩ := h.2
  refine ⟨hent, callsIn_fw ((h2 w X ι us hw hl hr hi).mono fun e w' hh => ?_)⟩
  obtain ⟨u, v, σ', n', X', ι', rfl, q, c1, c2, c3⟩ := hh
  exact ⟨u, rfl, v, σ', n', X', ι', q, c2, c1, c3⟩
 ·exact pure rfl h
theorem opTo_enter {r : Option Nat} {o : Oper} {a : Act} {f : Nat} {us : Array Value} {R : Value → World → Prop} (hd : ∀ c, o.op ≠ .defer c)
 (hx : (execOp a.eval o).run P w = .ok (.enter f us) w) (hc : CallsIn (Fw r) 0 P f us w fun e w' => ∃ u, e = .returned u ∧ R u w') : OpTo r P o a w R := by
 intro next Qx hn
 refine ⟨fun _ _ => trivial, ?_⟩
 rw [Oper.semAt_eq _ _ _ hd, hx, Oper.uponIn_enter]
 refine ⟨fun h => by simp [Fw, Fence.wide] at h, hc.mono fun e w' hh => ?_⟩
 obtain ⟨u, rfl, hu⟩ := hh
 exact hn _ _ hu
theorem bind_reps {N : Nat} : ∀ (ps : List Nat) (xs : List V) (us : List Value) (env : Nat → V) (tmps : Array Value), (∀ p ∈ ps, p < N) → N ≤ tmps.size →
 (∀ t, Rep w X ι n (env t) (tmps.getD t undef)) → (∀ (i : Nat) (e : V) (u : Value), xs[i]? = some e → us[i]? = some u → Rep w X ι n e u) → xs.length = us.length →
 N ≤ ((ps.zip us).foldl (fun tmps (p : Nat × Value) => tmps.setIfInBounds p.1 p.2) tmps).size ∧
  ∀ t, Rep w X ι n (bindPs env ps xs t) (((ps.zip us).foldl (fun tmps (p : Nat × Value) => tmps.setIfInBounds p.1 p.2) tmps).getD t undef)
 | [], xs, us, env, tmps, _, h2, h3, _, _ => by simp [bindPs]; exact ⟨h2, by simpa using h3⟩
 | p :: ps, [], us, env, tmps, _, h2, h3, _, h5 => by
   have : us = [] := by cases us; rfl; simp at h5
   subst this; simp [bindPs]; exact ⟨h2, by simpa using h3⟩
 | p :: ps, x :: xs, [], env, tmps, _, _, _, _, h5 => by simp at h5
 | p :: ps, x :: xs, u :: us, env, tmps, h1, h2, h3, h4, h5 => by
   simp only [List.zip_cons_cons, List.foldl_cons, bindPs]
   refine bind_reps ps xs us _ _ (fun q hq => h1 q (List.mem_cons_of_mem _ hq)) (by simpa using h2) (fun t => ?_) (fun i e u' he hu => h4 (i + 1) e u' (by simpa using he) (by simpa using hu)) (by simpa using h5)
   have hp : p < tmps.size := Nat.lt_of_lt_of_le (h1 p (by simp)) h2
   by_cases e : t = p
   ·subst e
    simp only [if_true, Array.getD_eq_getD_getElem?, Array.getElem?_setIfInBounds_self_of_lt hp, Option.getD_some]
    exact h4 0 x u rfl rfl
   ·simp only [e, if_false, Array.getD_eq_getD_getElem?, Array.getElem?_setIfInBounds_ne (Ne.symm e)]
    simpa [Array.getD_eq_getD_getElem?] using h3 t
section
variable {P : Program} {w : World} {X : Nat → Prop} {ι : Nat → Nat} {σ : Sto} {n : Nat}
theorem invTbl_mem {name : String} {t : Nat} {r : Nat × Nat × Option (Bool × Nat × Nat)} (h : (invTbl P name).find? (fun r => r.1 == t) = some r) : invRow P name t = some (t, r.2.1, r.2.2) := by
 have hm := List.mem_of_find?_eq_some h
 have ht := List.find?_some h
 simp only [beq_iff_eq] at ht
 unfold invTbl at hm
 obtain ⟨t', -, hr⟩ := List.mem_filterMap.1 hm
 have e : r.1 = t' := by
  unfold invRow at hr
  simp only [Option.bind_eq_some_iff, Option.map_eq_some_iff] at hr
  obtain ⟨_, _, _, _, _, _, rfl⟩ := hr
  rfl
 rw [← ht, e, hr, ← e]
theorem run_method {name : String} {t f : Nat} {rc : Option (Bool × Nat × Nat)} (hw : WF w X ι σ n) (hrow : invRow P name t = some (t, f, rc)) {v r : V} {u : Value} (hv : Rep w X ι n v u)
 (hr : recvOf σ v rc = some r) (k : Nat) : ∃ ur, (method (k + 1) t u name).run P w = .ok (f, ur) w ∧ Rep w X ι n r ur := by
 unfold invRow at hrow
 simp only [Option.bind_eq_some_iff, Option.map_eq_some_iff] at hrow
 obtain ⟨i, hi, m, hm, q, hq, he⟩ := hrow
 simp only [Prod.mk.injEq, true_and] at he
 obtain ⟨rfl, rfl⟩ := he
 unfold rcvOf at hq
 split at hq
 ·cases hq
 rename_i f p hf
 split at hq
 ·rename_i hp
  split at hq
  ·rename_i d hd
   split at hq
   ·rename_i hpd
    cases hq
    simp only [recvOf, Option.some.injEq] at hr
    subst hr
    refine ⟨u, ?_, hv⟩
    simp only [beq_iff_eq] at hpd
    have hrun : ∀ s, (receiverAt t (.val u) p s).run P w = .ok u w := by
     intro s
     unfold receiverAt
     simp only [Sem.run_bind, run_underlying hd, Result.andThen_ok]
     cases d <;> simp [isPtrD] at hpd <;> subst hpd <;> simp [Place.get]
    unfold method
    simp only [Sem.run_bind, run_typeInfo hi, Result.andThen_ok, hm, hp, follow, Sem.run_pure, hf, hrun]
   ·cases hq
  ·cases hq
 ·rename_i s hp
  split at hq
  rotate_left
  ·cases hq
  rename_i hsp
  simp only [Bool.and_eq_true, Bool.not_eq_true'] at hsp
  obtain ⟨hs, rfl⟩ := hsp
  split at hq
  rotate_left
  ·cases hq
  rename_i fs hfs
  split at hq
  rotate_left
  ·cases hq
  rename_i g hg
  split at hq
  rotate_left
  ·cases hq
  rename_i j hj
  split at hq
  rotate_left
  ·cases hq
  rename_i hc
  simp only [Bool.and_eq_true, Bool.not_eq_true', Bool.or_eq_true, beq_iff_eq, decide_eq_true_eq] at hc
  obtain ⟨⟨hnp, h1⟩, h0⟩ := hc
  cases hq
  obtain ⟨hju, -⟩ := ti_spec hj
  have key : ∀ (b o : Nat) (uo : Nat → Value) (cs : List V), u = .pointer (some ⟨b, o, none⟩) → (∀ (k : Nat) (c : V), cs[k]? = some c → w.cell? ⟨b, o + k, none⟩ = some (uo k) ∧ Rep w X ι n c (uo k)) →
   loadC j.agg j.size (cs.drop g.offset) = some r → ∃ ur, (method (k + 1) t u name).run P w = .ok (f, ur) w ∧ Rep w X ι n r ur := by
   intro b o uo cs hu hcs hl
   obtain ⟨z, hz, hrz⟩ := load_sound (P := P) (w := w) (X := X) (ι := ι) (n := n) hj h1 (drop_at hcs) hl
   refine ⟨z, ?_, hrz⟩
   subst hu
   have hrun : (receiverAt g.type (.var ⟨b, o + g.offset, none⟩) false none).run P w = .ok z w := by
    unfold receiverAt
    simp only [Sem.run_bind, run_underlying hju, Result.andThen_ok]
    cases hjd : j.d <;> rw [hjd] at hnp <;> simp [isPtrD] at hnp <;> simp [Place.get, hz]
   have hfol : (follow [s] t (.val (.pointer (some ⟨b, o, none⟩)))).run P w = .ok (g.type, .var ⟨b, o + g.offset, none⟩) w := by
    simp [follow, Sem.run_bind, run_underlying hfs, hg, hs, Place.get, asAddr, fieldPlace, run_sizeOf hj, h0, add_none, Result.andThen_ok]
   have hpe : m.path.isEmpty = false := by
    have : m.path.toList.length = 1 := by rw [hp]; rfl
    simp [Array.isEmpty]; intro h; rw [h] at this; simp at this
   unfold method
   simp only [Sem.run_bind, run_typeInfo hi, Result.andThen_ok, hm, hp, hfol, hf, hpe, Bool.false_eq_true, if_false, hrun, Sem.run_pure]
  simp only [recvOf] at hr
  split at hr
  ·simp only [Option.bind_eq_some_iff] at hr
   obtain ⟨e, he, hl⟩ := hr
   obtain ⟨-, uo, hu⟩ := rep_at hw he
   generalize hy : u = y at hv
   cases hv
   subst hy
   rename_i id s' i' j' _ _
   rw [← List.drop_drop] at hl
   exact key _ _ _ _ rfl (drop_at hu) hl
  ·generalize hy : u = y at hv
   cases hv with
   | box _ b o uo hX hb h1' hm' hr' =>
     rw [← hy]
     exact key b o uo _ hy (fun k c hc => ⟨hm' k c hc, (hr' k c hc).up⟩) hr
  ·cases hr
 ·cases hq
theorem inv_shape {o : Oper} {x : Opd} {tbl : List (Nat × Nat × Option (Bool × Nat × Nat))} {es : List Opd} (hc : cOp P o = some (.inv x tbl es)) :
 ∃ c y name, o.op = .call c ∧ c.callee = .invoke y name ∧ cOpd y = some x ∧ tbl = invTbl P name ∧ cOpds c.args.toList = some es := by
 obtain ⟨dst, op, ty, pos, after, guard⟩ := o
 cases op <;> simp only [cOp, reduceCtorEq] at hc
 case call c =>
  refine ⟨c, ?_⟩
  split at hc
  case h_8 y name hcal =>
   simp only [Option.bind_eq_bind, Option.bind_eq_some_iff, Option.some.injEq, AI.inv.injEq] at hc
   obtain ⟨g', hg, es', hes, rfl, rfl, rfl⟩ := hc
   exact ⟨y, name, rfl, hcal, hg, rfl, hes⟩
  all_goals
   exfalso
   repeat' (first | (simp only [Option.bind_eq_bind, Option.bind_eq_some_iff, Option.map_eq_some_iff, Option.some.injEq, reduceCtorEq, and_false, exists_false] at hc; done) |
    (simp only [Option.bind_eq_bind, Option.bind_eq_some_iff, Option.map_eq_some_iff, Option.some.injEq, reduceCtorEq, and_false, exists_false] at hc) | (obtain ⟨_, _, hc⟩ := hc) | split at hc | cases hc)
 all_goals
  exfalso
  repeat' (first | (simp only [Option.bind_eq_bind, Option.bind_eq_some_iff, Option.map_eq_some_iff, Option.some.injEq, reduceCtorEq, and_false, exists_false] at hc; done) |
   (simp only [Option.bind_eq_bind, Option.bind_eq_some_iff, Option.map_eq_some_iff, Option.some.injEq, reduceCtorEq, and_false, exists_false] at hc) | (obtain ⟨_, _, hc⟩ := hc) | split at hc | cases hc)
end
theorem call_shape {P : Program} {o : Oper} {ai : AI} (hc : cOp P o = some ai) {g : Opd} {es : List Opd} (hai : ai = .callv g es ∨ ∃ f, ai = .call f es) :
 ∃ c, o.op = .call c ∧ ∃ x, c.callee = .value x ∧ ∃ es', cOpds c.args.toList = some es' ∧
  ((∃ f, x = .func f ∧ ai = .call f es') ∨ (∃ g', cOpd x = some g' ∧ ai = .callv g' es')) := by
 obtain ⟨dst, op, ty, pos, after, guard⟩ := o
 cases op <;> simp only [cOp, reduceCtorEq] at hc
 case call c =>
  refine ⟨c, rfl, ?_⟩
  split at hc
  ·exfalso; rcases hai with rfl | ⟨f, rfl⟩ <;> (split at hc <;> simp [Option.bind_eq_some_iff] at hc)
  ·exfalso; rcases hai with rfl | ⟨f, rfl⟩ <;> (split at hc <;> (try split at hc) <;> simp at hc)
  ·exfalso; rcases hai with rfl | ⟨f, rfl⟩ <;> simp at hc
  ·exfalso; rcases hai with rfl | ⟨f, rfl⟩ <;> simp at hc
  ·exfalso
   split at hc
   ·simp only [Option.bind_eq_bind, Option.bind_eq_some_iff] at hc
    obtain ⟨d, _, hc⟩ := hc
    split at hc
    ·simp only [Option.bind_eq_some_iff] at hc
     obtain ⟨d, _, hc⟩ := hc
     split at hc
     ·simp only [Option.bind_eq_some_iff] at hc
      obtain ⟨j, _, hc⟩ := hc
      split at hc
      ·simp only [Option.bind_eq_some_iff, Option.some.injEq] at hc
       obtain ⟨_, _, _, _, rfl⟩ := hc
       rcases hai with h | ⟨f, h⟩ <;> cases h
      ·cases hc
     ·cases hc
    ·cases hc
   ·cases hc
  ·rename_i f hcal
   split at hc
   ·exfalso
    simp only [Option.map_eq_some_iff] at hc
    obtain ⟨es', hes, rfl⟩ := hc
    rcases hai with h | ⟨f, h⟩ <;> cases h
   ·simp only [Option.map_eq_some_iff] at hc
    obtain ⟨es', hes, rfl⟩ := hc
    exact ⟨_, hcal, es', hes, .inl ⟨f, rfl, rfl⟩⟩
  ·rename_i g0 hcal _
   simp only [Option.bind_eq_bind, Option.bind_eq_some_iff, Option.some.injEq] at hc
   obtain ⟨g', hg, es', hes, rfl⟩ := hc
   exact ⟨_, by assumption, es', hes, .inr ⟨g', hg, rfl⟩⟩
  ·exfalso
   simp only [Option.bind_eq_bind, Option.bind_eq_some_iff, Option.some.injEq] at hc
   obtain ⟨_, _, _, _, rfl⟩ := hc
   rcases hai with h | ⟨f, h⟩ <;> cases h
  ·cases hc
 all_goals
  exfalso
  rcases hai with rfl | ⟨f, rfl⟩ <;>
  repeat' (first | (simp only [Option.bind_eq_bind, Option.bind_eq_some_iff, Option.map_eq_some_iff, Option.some.injEq, reduceCtorEq, and_false, exists_false] at hc; done) |
   (simp only [Option.bind_eq_bind, Option.bind_eq_some_iff, Option.map_eq_some_iff, Option.some.injEq, reduceCtorEq, and_false, exists_false] at hc) | (obtain ⟨_, _, hc⟩ := hc) | split at hc | cases hc)
theorem prim_shape {P : Program} {o : Oper} {f : Nat} {es : List Opd} (hc : cOp P o = some (.prim f es)) : ∃ c, o.op = .call c ∧ c.callee = .value (.func f) ∧ cOpds c.args.toList = some es := by
 obtain ⟨dst, op, ty, pos, after, guard⟩ := o
 cases op <;> simp only [cOp, reduceCtorEq] at hc
 case call c =>
  refine ⟨c, rfl, ?_⟩
  split at hc
  case h_6 f' hcal =>
   split at hc
   ·simp only [Option.map_eq_some_iff, AI.prim.injEq] at hc
    obtain ⟨es', hes, rfl, rfl⟩ := hc
    exact ⟨hcal, hes⟩
   ·simp [Option.map_eq_some_iff] at hc
  all_goals
   exfalso
   repeat' (first | (simp only [Option.bind_eq_bind, Option.bind_eq_some_iff, Option.map_eq_some_iff, Option.some.injEq, reduceCtorEq, and_false, exists_false] at hc; done) |
    (simp only [Option.bind_eq_bind, Option.bind_eq_some_iff, Option.map_eq_some_iff, Option.some.injEq, reduceCtorEq, and_false, exists_false] at hc) | (obtain ⟨_, _, hc⟩ := hc) | split at hc | cases hc)
 all_goals
  exfalso
  repeat' (first | (simp only [Option.bind_eq_bind, Option.bind_eq_some_iff, Option.map_eq_some_iff, Option.some.injEq, reduceCtorEq, and_false, exists_false] at hc; done) |
   (simp only [Option.bind_eq_bind, Option.bind_eq_some_iff, Option.map_eq_some_iff, Option.some.injEq, reduceCtorEq, and_false, exists_false] at hc) | (obtain ⟨_, _, hc⟩ := hc) | split at hc | cases hc)
theorem next_shape {P : Program} {o : Oper} {x : Opd} (hc : cOp P o = some (.next x)) : ∃ y, o.op = .next y false ∧ cOpd y = some x := by
 obtain ⟨dst, op, ty, pos, after, guard⟩ := o
 cases op <;> simp only [cOp, reduceCtorEq] at hc
 case next it b =>
  split at hc
  ·cases hc
  ·rename_i hb
   simp only [Option.map_eq_some_iff, AI.next.injEq] at hc
   obtain ⟨x', hx, rfl⟩ := hc
   simp only [Bool.not_eq_true] at hb
   subst hb
   exact ⟨it, rfl, hx⟩
 all_goals
  exfalso
  repeat' (first | (simp only [Option.bind_eq_bind, Option.bind_eq_some_iff, Option.map_eq_some_iff, Option.some.injEq, reduceCtorEq, and_false, exists_false] at hc; done) |
   (simp only [Option.bind_eq_bind, Option.bind_eq_some_iff, Option.map_eq_some_iff, Option.some.injEq, reduceCtorEq, and_false, exists_false] at hc) | (obtain ⟨_, _, hc⟩ := hc) | split at hc | cases hc)
theorem opW_sound' {r : Option Nat} {fs : Bool} {ρ : Operand → Value} {o : Oper} {ai : AI} {a : Act} {Q : V → Sto → Nat → Prop} (hw : WF w X ι σ n) (hi : Glob.inv w X) (hl : lk ≤ n)
 (hρ : ∀ (x : Operand) (x' : Opd), cOpd x = some x' → Rep w X ι n (ρ' x') (ρ x)) (hcon : ∀ v, ρ' (.con v) = v) (hρc : ∀ v, ρ (.const v) = v)
 (hρf : ∀ f, ρ (.func f) = .func (.func f) #[] #[]) (hxx : execOp a.eval o = execOp ρ o) (hc : cOp P o = some ai)
 (h : opW T (sndC P T) fs ρ' σ n lk ai Q) : OpTo r P o a w (Res' w X ι σ n lk Q) := by
 have hd : ∀ c, o.op ≠ .defer c := fun c e => by
  obtain ⟨dst, op, ty, pos, after, guard⟩ := o
  simp only at e; subst e
  simp [cOp] at hc
 by_cases hinv : ∃ x tbl es, ai = .inv x tbl es
 ·obtain ⟨x, tbl, es, rfl⟩ := hinv
  obtain ⟨c, y, name, hop, hcal, hy, rfl, hes⟩ := inv_shape hc
  obtain ⟨e1, e2⟩ := cOpds_spec hes hρ
  simp only [opW] at h
  obtain ⟨-, h⟩ := h
  split at h
  rotate_left
  ·exact h.elim
  rename_i f rv hinv
  have hyr := hρ _ _ hy
  unfold invOf at hinv
  split at hinv
  rotate_left
  ·cases hinv
  rename_i t v hval
  rw [hval] at hyr
  simp only [Option.bind_eq_some_iff, Option.map_eq_some_iff, Prod.mk.injEq] at hinv
  obtain ⟨row, hrow, rv', hrv, rfl, rfl⟩ := hinv
  generalize hu : ρ y = u at hyr
  cases hyr with
  | iface _ _ uv hv =>
    have hmem := invTbl_mem hrow
    obtain ⟨ur, hrun, hrep⟩ := run_method hw hmem hv hrv (P.types.size + Made.depth - 1)
    have hdep : P.types.size + Made.depth - 1 + 1 = P.types.size + Made.depth := by unfold Made.depth; omega
    rw [hdep] at hrun
    have hreps : Reps w X ι n (rv' :: es.map ρ') (#[ur] ++ c.args.map ρ) := by
     refine ⟨by simp at e1 ⊢; omega, fun i e u he hu => ?_⟩
     cases i with
     | zero =>
       rw [Array.getElem?_append_left (by simp)] at hu
       simp at he hu; subst he; subst hu; exact hrep
     | succ i =>
       rw [Array.getElem?_append_right (by simp)] at hu
       simp only [List.size_toArray, List.length_cons, List.length_nil, Nat.zero_add, Nat.add_sub_cancel] at hu
       exact e2 i e u (by simpa using he) (by simpa using hu)
    obtain ⟨hent, hcall'⟩ := callW_sound (r := r) hw hi hl hreps h
    refine opTo_enter hd ?_ hcall'
    have hex : execOp a.eval o = (do let d ← resolve ρ c o.type; invoke d.target d.args) := by
     obtain ⟨dst, op, ty, pos, after, guard⟩ := o
     rw [hxx]
     simp only at hop; subst hop; rfl
    have hargs : (#[Value.iface t uv] ++ c.args.map ρ).extract 1 (#[Value.iface t uv] ++ c.args.map ρ).size = c.args.map ρ := by
     apply Array.ext'
     simp
     rw [List.take_of_length_le]; simp
    rw [hex]
    have := run_callFunc hent (#[ur] ++ c.args.map ρ) w
    simp only [Sem.run_bind, resolve, hcal, hu, Sem.run_pure, Result.andThen_ok, invoke, callMethod]
    simp only [Array.getElem?_append_left (show 0 < #[Value.iface t uv].size by simp), List.getElem?_toArray, List.getElem?_cons_zero, hargs, Sem.run_bind]
    have hp : (program : Sem Program).run P w = .ok P w := rfl
    rw [hp]
    simp only [Result.andThen_ok, hrun]
    exact this
 by_cases hnext : ∃ x, ai = .next x
 ·obtain ⟨x, rfl⟩ := hnext
  obtain ⟨y, hop, hy⟩ := next_shape hc
  simp only [opW] at h
  obtain ⟨v, σ', n', hq, hg⟩ := next_good (P := P) (ty := o.type) hw (hρ _ _ hy) h.2
  refine opTo_good (ρ := ρ) hd hxx ?_ hq
  obtain ⟨dst, op, ty, pos, after, guard⟩ := o
  simp only at hop; subst hop
  exact hg
 by_cases hprim : ∃ f es, ai = .prim f es
 ·obtain ⟨f, es, rfl⟩ := hprim
  obtain ⟨c, hop, hcal, hes⟩ := prim_shape hc
  obtain ⟨e1, e2⟩ := cOpds_spec hes hρ
  have hreps : Reps w X ι n (es.map ρ') (c.args.map ρ) := ⟨by simpa using e1.symm, fun i e u he hu => e2 i e u he (by simpa using hu)⟩
  simp only [opW] at h
  split at h
  rotate_left
  ·exact h.elim
  rename_i v σ' n' hp
  unfold primE at hp
  split at hp
  rotate_left
  ·cases hp
  rename_i p hpf
  obtain ⟨hent, hok⟩ := PrimsOk.ok (P := P) f p hpf
  have hcall := hok _ w X ι σ n lk _ _ _ hp hw hl hreps hi
  refine opTo_enter hd ?_ (callsIn_fw (callsIn_wide.2 (hcall.mono fun e w' hh => ?_)))
  ·obtain ⟨dst, op, ty, pos, after, guard⟩ := o
   rw [hxx]
   simp only at hop; subst hop
   show Sem.run P (do let d ← resolve ρ c ty; invoke d.target d.args) w = _
   simp [Sem.run_bind, resolve, hcal, hρf f, Deferred.ofValue, Result.andThen]
   simpa [invoke] using run_callFunc hent _ w
  ·obtain ⟨u, X', ι', rfl, hw', hr', he⟩ := hh
   exact ⟨u, rfl, v, σ', n', X', ι', h, hr', hw', he⟩
 by_cases hcall : ∃ g es, ai = .callv g es ∨ ∃ f, ai = .call f es
 ·obtain ⟨g, es, hai⟩ := hcall
  have hop := call_shape hc hai
  obtain ⟨c, hop, x, hcal, es', hes, hx⟩ := hop
  obtain ⟨e1, e2⟩ := cOpds_spec hes hρ
  have hreps : Reps w X ι n (es'.map ρ') (c.args.map ρ) := ⟨by simpa using e1.symm, fun i e u he hu => e2 i e u he (by simpa using hu)⟩
  have hex : execOp a.eval o = (do let d ← resolve ρ c o.type; invoke d.target d.args) := by
   obtain ⟨dst, op, ty, pos, after, guard⟩ := o
   rw [hxx]
   simp only at hop; subst hop; rfl
  have hres : ∀ (fn : Go.Fn) (first cap : Array Value), ρ x = .func fn first cap →
   (execOp a.eval o).run P w = (invoke (.fn fn cap) (first ++ c.args.map ρ)).run P w := fun fn first cap he => by
   rw [hex]
   simp [Sem.run_bind, resolve, hcal, he, Deferred.ofValue, Result.andThen]
  rcases hx with ⟨f, rfl, rfl⟩ | ⟨g', hg, rfl⟩
  ·simp only [opW] at h
   obtain ⟨hent, hcall'⟩ := callW_sound (r := r) hw hi hl hreps h
   refine opTo_enter hd ?_ hcall'
   rw [hres (.func f) #[] #[] (hρf f)]
   simpa [invoke] using run_callFunc hent _ w
  ·simp only [opW] at h
   have hgr := hρ _ _ hg
   split at h
   ·rename_i f caps hval
    rw [hval] at hgr
    generalize hu : ρ x = u at hgr
    cases hgr with
    | fn _ _ cus hl' hr' =>
      have hreps' : Reps w X ι n (es'.map ρ' ++ caps) (c.args.map ρ ++ cus) := by
       refine ⟨by rw [Array.size_append, List.length_append, hreps.1, hl'], fun i e u he hu => ?_⟩
       rw [List.getElem?_append] at he
       rw [Array.getElem?_append] at hu
       rw [hreps.1] at hu
       split at he <;> rename_i hlt
       ·rw [if_pos hlt] at hu; exact hreps.2 i e u he hu
       ·rw [if_neg hlt] at hu; exact hr' _ e u he hu
      obtain ⟨hent, hcall'⟩ := callW_sound (r := r) hw hi hl hreps' h
      refine opTo_enter hd ?_ hcall'
      rw [hres (.func f) #[] cus hu]
      simpa [invoke] using run_callFunc hent _ w
   ·rename_i f bs hval
    rw [hval] at hgr
    generalize hu : ρ x = u at hgr
    cases hgr with
    | bnd _ _ bus hl' hr' =>
      have hreps' : Reps w X ι n (bs ++ es'.map ρ') (bus ++ c.args.map ρ) := by
       refine ⟨by rw [Array.size_append, List.length_append, hreps.1, hl'], fun i e u he hu => ?_⟩
       rw [List.getElem?_append] at he
       rw [Array.getElem?_append] at hu
       rw [← hl'] at hu
       split at he <;> rename_i hlt
       ·rw [if_pos hlt] at hu; exact hr' i e u he hu
       ·rw [if_neg hlt] at hu; exact hreps.2 _ e u he hu
      obtain ⟨hent, hcall'⟩ := callW_sound (r := r) hw hi hl hreps' h
      refine opTo_enter hd ?_ hcall'
      rw [hres (.func f) bus #[] hu]
      simpa [invoke] using run_callFunc hent _ w
   ·rename_i l hval
    rw [hval] at hgr
    generalize hu : ρ x = u at hgr
    cases hgr with
    | yld _ hid =>
      obtain ⟨_, h⟩ := h
      unfold yieldW at h
      split at h
      ·rename_i env ps assign body pend hrow
       obtain ⟨hlen, hlk, h⟩ := h
       obtain ⟨rec, hrec, hrep⟩ := hw.loop l _ _ _ _ _ _ hrow
       obtain ⟨N, hN, hps, hla, hlb⟩ := hrep.code
       have hsize : (c.args.map ρ).size = rec.params.size := by
        rw [hreps.1, hlen, ← hrep.hps]; simp
       have hb := bind_reps (N := N) ps (es'.map ρ') (c.args.map ρ).toList env rec.tmps hps hN hrep.rep (fun i e u he hu => hreps.2 i e u he (by simpa using hu)) (by rw [hlen, ← hrep.hps]; simp [← hsize])
       have hfold : (rec.params.zip (c.args.map ρ)).foldl (fun tmps (p : Nat × Value) => tmps.setIfInBounds p.1 p.2) rec.tmps =
        (ps.zip (c.args.map ρ).toList).foldl (fun tmps (p : Nat × Value) => tmps.setIfInBounds p.1 p.2) rec.tmps := by
        rw [← Array.foldl_toList, Array.toList_zip, hrep.hps]
       intro next Qx hn
       refine ⟨fun _ _ => trivial, ?_⟩
       rw [Oper.semAt_eq _ _ _ hd, hres (.yield (ι l)) #[] #[] hu]
       have hy := run_yield (P := P) (args := c.args.map ρ) hrec hsize
       simp only [invoke, Array.empty_append]
       rw [hy, Oper.uponIn_round]
       refine ⟨fun h => by simp [Fw, Fence.wide] at h, ?_⟩
       have hround := h w X ι N _ rec.fn rec.assign rec.body hw hl hlk ⟨_, _, _, _, _, hrow⟩ hb.1 hla hlb hb.2 hi
       rw [← hfold] at hround
       refine roundIn_fw (r := r) (hround.mono (fun e w' hh => ?_))
       obtain ⟨ex, σ', n', X', ι', env2, ps2, a2, b2, pend2, rfl, ⟨e3, p3, a3, b3, d3, hq1, hq2⟩, hσ, hwf, hext⟩ := hh
       rw [hσ] at hq1
       simp only [Option.some.injEq, Ob.loop.injEq] at hq1
       obtain ⟨rfl, rfl, rfl, rfl, -, rfl⟩ := hq1
       exact hn _ _ ⟨_, _, _, X', ι', hq2, .bool _, hwf, hext⟩
      ·exact h.elim
   ·exact h.elim
 ·have hev : ∃ v σ' n', ev ρ' σ n lk ai = some (v, σ', n') ∧ Q v σ' n' := by
   unfold opW at h
   split at h
   ·exact absurd ⟨.con .undef, _, .inr ⟨_, rfl⟩⟩ hcall
   ·exact absurd ⟨_, _, .inl rfl⟩ hcall
   ·exact absurd ⟨_, _, _, rfl⟩ hinv
   ·exact absurd ⟨_, rfl⟩ hnext
   ·exact absurd ⟨_, _, rfl⟩ hprim
   ·split at h
    ·rename_i v σ' n' he; exact ⟨v, σ', n', he, h⟩
    ·exact h.elim
  obtain ⟨v, σ', n', he, hq⟩ := hev
  exact opTo_good hd hxx (op_sound hw hl hρ hcon hρc hc he) hq
theorem opW_sound {r : Option Nat} {fs : Bool} {o : Oper} {ai : AI} {a : Act} {Q : V → Sto → Nat → Prop} (hw : WF w X ι σ n) (hi : Glob.inv w X) (hl : lk ≤ n)
 (hρ : ∀ (x : Operand) (x' : Opd), cOpd x = some x' → Rep w X ι n (ρ' x') (a.eval x)) (hcon : ∀ v, ρ' (.con v) = v) (hc : cOp P o = some ai)
 (h : opW T (sndC P T) fs ρ' σ n lk ai Q) : OpTo r P o a w (Res' w X ι σ n lk Q) :=
 opW_sound' hw hi hl hρ hcon (fun _ => rfl) (fun _ => rfl) rfl hc h
end
end Go.Q
end

section
/- Rows of operations, run as the evaluator says. -/
namespace Go.Q
variable [Link] [Glob]
structure Base where
 w : World
 X : Nat → Prop
 ι : Nat → Nat
 σ : Sto
 n : Nat
 lk : Nat
def markOf (r : Nat) : Deferred := { target := .collected r, args := #[] }
def Marks (lo : Nat) (X : Nat → Prop) (w : World) (ds : List Deferred) : Prop :=
 ∃ rs : List Nat, ds = rs.map markOf ∧ rs.Nodup ∧ ∀ r ∈ rs, lo ≤ r ∧ w.heap[r]? = some (.deferred (some [])) ∧ ¬ X r
structure At (B : Base) (r : Option Nat) (N : Nat) (s : St) (a : Act) (w : World) (X : Nat → Prop) (ι : Nat → Nat) : Prop where
 wf : WF w X ι s.σ s.n
 hlk : s.lk = B.lk
 le : B.lk ≤ s.n
 size : N ≤ a.tmps.size
 rep : ∀ t, Rep w X ι s.n (s.env t) (a.tmps.getD t undef)
 ext : Ext B.w w B.X X B.ι ι B.σ s.σ B.n s.n B.lk
 marks : Marks B.w.heap.size X w a.defers
 rnd : ∀ l, r = some l → ∃ rec, w.heap[l]? = some (.loop rec)
 inv : Glob.inv w X
section
variable {P : Program} {T : Tab} [PrimsOk P T] {B : Base} {r : Option Nat} {N : Nat} {s : St} {a : Act} {w : World} {X : Nat → Prop} {ι : Nat → Nat}
theorem At.lkn (h : At B r N s a w X ι) : s.lk ≤ s.n := by rw [h.hlk]; exact h.le
theorem At.eval (h : At B r N s a w X ι) {x : Operand} {x' : Opd} (hc : cOpd x = some x') : Rep w X ι s.n (s.val x') (a.eval x) := by
 unfold cOpd at hc
 split at hc
 ·simp only [Option.some.injEq] at hc; subst hc; exact h.rep _
 ·simp only [Option.map_eq_some_iff] at hc
  obtain ⟨v, hv, rfl⟩ := hc
  exact ofValA_rep hv
 ·simp only [Option.some.injEq] at hc; subst hc
  exact .fn _ [] #[] rfl (fun i e u he => by simp at he)
 ·cases hc
theorem Marks.ext {lo : Nat} {w' : World} {X' : Nat → Prop} {ι' : Nat → Nat} {σ σ' : Sto} {n n' lk : Nat} {ds : List Deferred} (hw : WF w X ι σ n) (h : Marks lo X w ds)
 (e : Ext w w' X X' ι ι' σ σ' n n' lk) : Marks lo X' w' ds := by
 obtain ⟨rs, h1, h2, h3⟩ := h
 refine ⟨rs, h1, h2, fun r hr => ?_⟩
 obtain ⟨a1, a2, a3⟩ := h3 r hr
 have hlt := (Array.getElem?_eq_some_iff.1 a2).1
 exact ⟨a1, by rw [e.heap r hlt (fun ho => a3 (ho.sub hw))]; exact a2, fun hx => a3 (e.xnew r hlt hx)⟩
theorem At.put (h : At B r N s a w X ι) {v : V} {u : Value} {σ' : Sto} {n' : Nat} {w' : World} {X' : Nat → Prop} {ι' : Nat → Nat} {dst : Option Nat} (hd : fits N dst = true)
 (hr : Rep w' X' ι' n' v u) (hw : WF w' X' ι' σ' n') (he : Ext w w' X X' ι ι' s.σ σ' s.n n' s.lk) :
 At B r N (({ s with σ := σ', n := n' } : St).put dst v) (a.put dst u) w' X' ι' := by
 have hrep : ∀ t, Rep w' X' ι' n' (s.env t) (a.tmps.getD t undef) := fun t => (h.rep t).ext h.wf he
 have he' : Ext B.w w' B.X X' B.ι ι' B.σ σ' B.n n' B.lk := h.ext.trans (by rw [← h.hlk]; exact he)
 have hle : B.lk ≤ n' := Nat.le_trans h.le he.hn
 have hrn : ∀ l, r = some l → ∃ rec, w'.heap[l]? = some (.loop rec) := fun l hl => by
  obtain ⟨rec, hrec⟩ := h.rnd l hl
  exact he.loops _ _ hrec
 cases dst with
 | none => exact ⟨hw, h.hlk, hle, h.size, hrep, he', h.marks.ext h.wf he, hrn, he.inv h.wf h.inv⟩
 | some d =>
   have hdN : d < N := by simpa [fits] using hd
   refine ⟨hw, h.hlk, hle, by simpa [Act.put] using h.size, fun t => ?_, he', h.marks.ext h.wf he, hrn, he.inv h.wf h.inv⟩
   have hlt : d < a.tmps.size := Nat.lt_of_lt_of_le hdN h.size
   by_cases e : t = d
   ·subst e
    simp only [St.put, Act.put, if_true, Array.getD_eq_getD_getElem?, Array.getElem?_setIfInBounds_self_of_lt hlt, Option.getD_some]
    exact hr
   ·simp only [St.put, Act.put, e, if_false, Array.getD_eq_getD_getElem?, Array.getElem?_setIfInBounds_ne (Ne.symm e)]
    simpa [Array.getD_eq_getD_getElem?] using hrep t
theorem rep_bool' {n : Nat} {u : Value} {b : Bool} (h : Rep w X ι n (.bool b) u) : u = .bool b := by cases h; rfl
theorem wants_iff' (h : ∀ t, ∃ m, Rep w X ι m (s.env t) (a.tmps.getD t undef)) {ops : Array Oper} {o : Oper} {ao : AOp} (hc : cOper P N ops o = some ao) :
 wants ao.guard s.env = Region.wanted o (yielded ops a.tmps) := by
 unfold cOper at hc
 split at hc
 ·cases hc
 ·split at hc
  ·split at hc
   ·rename_i hg
    simp only [Option.some.injEq] at hc; subst hc
    simp [wants, Region.wanted, hg]
   ·rename_i j want hg
    split at hc
    ·rename_i t ht
     simp only [Option.some.injEq] at hc; subst hc
     simp only [wants, Region.wanted, hg, yielded, ht, Option.bind_some]
     obtain ⟨m, hr⟩ := h t
     cases hx : a.tmps[t]? with
     | none =>
       rw [show a.tmps.getD t undef = undef by simp [Array.getD_eq_getD_getElem?, hx]] at hr
       generalize s.env t = y at hr
       cases hr <;> simp
     | some u =>
       rw [show a.tmps.getD t undef = u by simp [Array.getD_eq_getD_getElem?, hx]] at hr
       generalize s.env t = y at hr
       cases hr <;> simp
    ·cases hc
  ·cases hc
theorem wants_iff (h : At B r N s a w X ι) {ops : Array Oper} {o : Oper} {ao : AOp} (hc : cOper P N ops o = some ao) :
 wants ao.guard s.env = Region.wanted o (yielded ops a.tmps) := wants_iff' (fun t => ⟨_, h.rep t⟩) hc
theorem cOper_spec {ops : Array Oper} {o : Oper} {ao : AOp} (hc : cOper P N ops o = some ao) : cOp P o = some ao.op ∧ ao.dst = o.dst ∧ fits N o.dst = true := by
 unfold cOper at hc
 split at hc
 ·cases hc
 ·rename_i ai hai
  split at hc
  ·rename_i hf
   split at hc
   ·simp only [Option.some.injEq] at hc; subst hc; exact ⟨hai, rfl, hf⟩
   ·split at hc
    ·simp only [Option.some.injEq] at hc; subst hc; exact ⟨hai, rfl, hf⟩
    ·cases hc
  ·cases hc
theorem At.skip (h : At B r N s a w X ι) {dst : Option Nat} (hd : fits N dst = true) : At B r N (s.put dst .undef) (a.put dst undef) w X ι := by
 have := h.put (v := .undef) (u := undef) (σ' := s.σ) (n' := s.n) (dst := dst) hd .undef h.wf (Ext.refl h.wf.xlt)
 exact this
theorem wpR_sound {ops : Array Oper} {Qm : Exit → Act → World → Prop} {Q : St → Prop} (hQ : ∀ s a w X ι, At B r N s a w X ι → Q s → Qm .normal a w) :
 ∀ (l : List Oper) (al : List AOp), l.mapM (cOper P N ops) = some al → ∀ (s : St) (a : Act) (w : World) (X : Nat → Prop) (ι : Nat → Nat), At B r N s a w X ι →
  wpR T (sndC P T) al s Q → wpListIn (Fw r) 0 P ops Qm l a w
 | [], al, hl, s, a, w, X, ι, h, hw => by
   simp at hl; subst hl
   exact hQ s a w X ι h hw
 | o :: l, al, hl, s, a, w, X, ι, h, hw => by
   simp only [List.mapM_cons, Option.pure_def, Option.bind_eq_bind, Option.bind_eq_some_iff, Option.some.injEq] at hl
   obtain ⟨ao, hao, al', hal, rfl⟩ := hl
   obtain ⟨h1, h2, h3⟩ := cOper_spec hao
   simp only [wpR] at hw
   rw [wants_iff h hao] at hw
   unfold wpListIn
   split at hw <;> rename_i hwant
   ·rw [if_pos hwant]
    refine opW_sound (r := r) h.wf h.inv h.lkn (fun x x' hx => h.eval hx) (fun _ => rfl) h1 hw _ _ ?_
    intro u w' hres
    obtain ⟨v, σ', n', X', ι', hq, hr, hwf, he⟩ := hres
    rw [h2] at hq
    exact wpR_sound hQ l al' hal _ _ _ _ _ (h.put h3 hr hwf he) hq
   ·rw [if_neg hwant]
    rw [h2] at hw
    exact ⟨fun _ _ => trivial, wpR_sound hQ l al' hal _ _ _ _ _ (h.skip h3) hw⟩
end
end Go.Q
end

section
/- Code, run as the evaluator says. -/
namespace Go.Q
@[reducible] def lnk (P : Program) (T : Tab) : Link := ⟨fun N c a => cCode P N (ownB T) c = some a⟩
section
variable [Link] [Glob] {P : Program} {T : Tab} [PrimsOk P T] {B : Base} {r : Option Nat} {N : Nat}
def PostOf (B : Base) (r : Option Nat) (N : Nat) (Q : Ex → St → Prop) : Exit → Act → World → Prop
 | .normal, a, w => ∃ s X ι, At B r N s a w X ι ∧ Q .normal s
 | .exit id, a, w => ∃ s X ι, At B r N s a w X ι ∧ Q (.exit id) s
 | .ret, a, w => ∃ s X ι, At B r N s a w X ι ∧ Q .ret s
 | _, _, _ => False
def DrawOk (P : Program) (T : Tab) : Prop := ∀ (B : Base) (r : Option Nat) (N : Nat) (id : Nat) (ops : Array Oper) (segs : List Seg) (s : St) (a : Act) (w : World)
 (X : Nat → Prop) (ι : Nat → Nat) (Q : Ex → St → Prop), cDraw P N (ownB T) ops = some segs → At B r N s a w X ι →
  wpS T (sndC P T) segs s (Q .normal) → (Code.region id ops true).wpIn (Fw r) 0 P (PostOf B r N Q) a w
theorem PostOf.mono {Q Q' : Ex → St → Prop} (h : ∀ e s, Q e s → Q' e s) {e : Exit} {a : Act} {w : World} (hh : PostOf B r N Q e a w) : PostOf B r N Q' e a w := by
 cases e <;> simp only [PostOf] at * <;> first | exact hh | (obtain ⟨s, X, ι, h1, h2⟩ := hh; exact ⟨s, X, ι, h1, h _ _ h2⟩)
def LoopAt (F : Fence) (P : Program) (c : Code) (Q : Exit → Act → World → Prop) (a : Act) (w : World) : Prop :=
 ∀ (b : Frame) (k : List Item) (cs : List Frame), b.roundOf = F.round → F.fn b.fn → F.room (cs.length + 1 + 0) →
  ∃ e a' w', Q e a' w' ∧ ArrivesIn (Machine.fenced P F) P (lone (b.atR a (.code c :: .inLoop c :: k)) cs w) b k cs e a' w'
theorem LoopAt.step {F : Fence} {c : Code} {Q : Exit → Act → World → Prop} {a : Act} {w : World} (h : c.wpIn F 0 P (Exit.then (LoopAt F P c Q) Q) a w) : LoopAt F P c Q a w := by
 intro b k cs hro hb hr
 obtain ⟨e, a₁, w₁, hq, harr⟩ := h b (.inLoop c :: k) cs hro hb hr
 cases e with
 | normal =>
   obtain ⟨e₂, a₂, w₂, hq₂, harr₂⟩ := hq b k cs hro hb hr
   exact ⟨e₂, a₂, w₂, hq₂, .of_steps (StepsIn.trans harr (.one (fenced_calm hb hr rfl) stepR_inLoop)) harr₂⟩
 | exit id => exact ⟨_, a₁, w₁, hq, .pass (x := .inLoop c) rfl (fun _ _ => .inl (by simp)) harr⟩
 | goto l => exact ⟨_, a₁, w₁, hq, .pass (x := .inLoop c) rfl (fun _ _ => .inl (by simp)) harr⟩
 | ret => exact ⟨_, a₁, w₁, hq, .pass (x := .inLoop c) rfl (fun _ _ => .inl (by simp)) harr⟩
 | panic ch => exact ⟨_, a₁, w₁, hq, .pass (x := .inLoop c) rfl (fun _ _ => .inl (by simp)) harr⟩
 | outgrown => exact ⟨_, a₁, w₁, hq, .pass (x := .inLoop c) rfl (fun _ _ => .inl (by simp)) harr⟩
theorem LoopAt.loop {F : Fence} {c : Code} {Q : Exit → Act → World → Prop} {a : Act} {w : World} (h : LoopAt F P c Q a w) : (Code.loop c).wpIn F 0 P Q a w := by
 intro b k cs hro hb hr
 obtain ⟨e, a', w', hq, harr⟩ := h b k cs hro hb hr
 exact ⟨e, a', w', hq, .of_steps (.one (fenced_calm hb hr rfl) stepR_loop) harr⟩
theorem stepR_scope {b : Frame} {a : Act} {k : List Item} {cs : List Frame} {w : World} {c : Code} :
 step P (lone (b.atR a (.code (.scope c) :: k)) cs w) = .next (lone (b.atR a (.code c :: .inScope c :: k)) cs w) :=
 step_lone_go (by simp [stepG, stepG.exec, Frame.atR])
theorem stepR_inScope {b : Frame} {a : Act} {k : List Item} {cs : List Frame} {w : World} {c : Code} :
 step P (lone (b.atR a (.inScope c :: k)) cs w) = .next (lone (b.atR a k) cs w) :=
 step_lone_go (by simp [stepG, stepG.exec, Frame.atR])
theorem wpIn_scope {F : Fence} {c : Code} {Q : Exit → Act → World → Prop} {a : Act} {w : World} (hg : ∀ l a w, ¬ Q (.goto l) a w) (h : c.wpIn F 0 P Q a w) : (Code.scope c).wpIn F 0 P Q a w := by
 intro b k cs hro hb hr
 have h0 : (lone (b.atR a (.code (.scope c) :: k)) cs w).fenced P F := fenced_calm hb hr rfl
 have s0 : step P (lone (b.atR a (.code (.scope c) :: k)) cs w) = .next (lone (b.atR a (.code c :: .inScope c :: k)) cs w) := stepR_scope
 obtain ⟨e, a₁, w₁, hq, harr⟩ := h b (.inScope c :: k) cs hro hb hr
 cases e with
 | normal => exact ⟨.normal, a₁, w₁, hq, .head h0 s0 (StepsIn.trans harr (.one (fenced_calm hb hr rfl) stepR_inScope))⟩
 | exit id =>
   have hx : exitTo id (.inScope c :: k) = exitTo id k := by simp [exitTo]
   exact ⟨.exit id, a₁, w₁, hq, fun k' hk => .head h0 s0 (harr.1 k' (by rw [hx]; exact hk)),
    fun hr' hk => let ⟨k₁, h1, h2⟩ := harr.2 hr' (by rw [hx]; exact hk); ⟨k₁, h1, .head h0 s0 h2⟩⟩
 | goto l => exact absurd hq (hg _ _ _)
 | ret => exact ⟨_, a₁, w₁, hq, .of_steps (.one h0 s0) harr⟩
 | panic ch => exact ⟨_, a₁, w₁, hq, .of_steps (.one h0 s0) harr⟩
 | outgrown => exact ⟨_, a₁, w₁, hq, .of_steps (.one h0 s0) harr⟩
theorem range_sound {g : Operand} {g' : Opd} {ps : Array Tmp} {x y : Code} {ax ay : AC} {s : St} {a : Act} {w : World} {X : Nat → Prop} {ι : Nat → Nat} {Q : Ex → St → Prop} {f : Nat}
 {caps : List V} {cus : Array Value} (h : At B r N s a w X ι) (hg : cOpd g = some g') (hu : a.eval g = .func (.func f) #[] cus) (hl' : caps.length = cus.size)
 (hr' : ∀ (i : Nat) (e : V) (u : Value), caps[i]? = some e → cus[i]? = some u → Rep w X ι s.n e u) (hps : ∀ p ∈ ps, p < N) (hx : Link.rel N x ax) (hy : Link.rel N y ay) (hent : Ent P f)
 (hw : ∀ (w : World) (X : Nat → Prop) (ι : Nat → Nat) (us : Array Value), WF w X ι (upd s.σ s.n (some (.loop s.env ps.toList ax ay .ready none))) (s.n + 1) → s.lk ≤ s.n + 1 →
  Reps w X ι (s.n + 1) (.yld s.n :: caps) us → Glob.inv w X → CallsIn Fence.wide 0 P f us w fun e w' => ∃ u v σ' n' X' ι', e = .returned u ∧ (match σ' s.n with
   | some (.loop _ _ _ _ st pend) => st ≠ .busy ∧ Q (pend.getD .normal) { s with σ := upd σ' s.n none, n := n' }
   | _ => False) ∧ WF w' X' ι' σ' n' ∧ Rep w' X' ι' n' v u ∧ Ext w w' X X' ι ι' (upd s.σ s.n (some (.loop s.env ps.toList ax ay .ready none))) σ' (s.n + 1) n' s.lk) :
 (Code.rangeFunc g ps x y).wpIn (Fw r) 0 P (PostOf B r N Q) a w := by
 refine wpIn_rangeFunc fun fn _ => ?_
 have enter : ∃ (wd : World) (mark : List Deferred) (D : Nat), WF wd X ι s.σ s.n ∧ Ext w wd X X ι ι s.σ s.σ s.n s.n s.lk ∧
  (Instr.enterLoop fn a.tmps ps x y r).run P w = .ok (wd.heap.size, mark) (wd.alloc (.loop { state := .ready, pending := none, fn, tmps := a.tmps, params := ps, assign := x, body := y, defers := D })) ∧
  Marks B.w.heap.size X wd (mark ++ a.defers) := by
  cases hr : r with
  | none =>
    obtain ⟨b1, b2⟩ := lay_block (lk := s.lk) h.wf (.deferred (some []))
    refine ⟨w.alloc (.deferred (some [])), [markOf w.heap.size], w.heap.size, b1, b2, ?_, ?_⟩
    ·rw [run_enterLoop_outer]; simp [markOf]
    ·obtain ⟨rs, m1, m2, m3⟩ := h.marks
     have hlt : ∀ q ∈ rs, q < w.heap.size := fun q hq => (Array.getElem?_eq_some_iff.1 (m3 q hq).2.1).1
     refine ⟨w.heap.size :: rs, by simp [m1], List.nodup_cons.2 ⟨fun hm => by have := hlt _ hm; omega, m2⟩, fun q hq => ?_⟩
     rcases List.mem_cons.1 hq with rfl | hq
     ·exact ⟨h.ext.size, World.alloc_heap_new w _, fun hX => by have := h.wf.xlt _ hX; omega⟩
     ·obtain ⟨c1, c2, c3⟩ := m3 q hq
      exact ⟨c1, by rw [Go.RowKit.Below.heap_alloc _ _ _ (hlt q hq)]; exact c2, c3⟩
  | some l0 =>
    obtain ⟨rec, hrec⟩ := h.rnd l0 hr
    refine ⟨w, [], rec.defers, h.wf, Ext.refl h.wf.xlt, ?_, by simpa using h.marks⟩
    rw [run_enterLoop_inner hrec]
 obtain ⟨wd, mark, D, hwd, hed, hrun, hmk⟩ := enter
 have hrep : LoopRep wd X ι s.n { state := .ready, pending := none, fn, tmps := a.tmps, params := ps, assign := x, body := y, defers := D } s.env ps.toList ax ay .ready none :=
  ⟨rfl, rfl, by simp, rfl, ⟨N, h.size, by simpa using hps, hx, hy⟩, fun t => (h.rep t).ext h.wf hed⟩
 obtain ⟨hw1, he1⟩ := new_loop (lk := s.lk) hwd h.lkn hrep
 have hι1 : setι ι s.n wd.heap.size s.n = wd.heap.size := by simp [setι]
 refine ⟨wd.heap.size, mark, (wd.alloc (.loop { state := .ready, pending := none, fn, tmps := a.tmps, params := ps, assign := x, body := y, defers := D })), { target := .fn (.func f) cus, args := #[.func (.yield wd.heap.size) #[] #[]] }, (wd.alloc (.loop { state := .ready, pending := none, fn, tmps := a.tmps, params := ps, assign := x, body := y, defers := D })), f, #[.func (.yield wd.heap.size) #[] #[]] ++ cus, (wd.alloc (.loop { state := .ready, pending := none, fn, tmps := a.tmps, params := ps, assign := x, body := y, defers := D })), hrun, ?_, fun _ _ => trivial, ?_,
  fun h => by simp [Fw, Fence.wide] at h, ?_⟩
 ·have hc : a.eval (.const (.func (.yield wd.heap.size) #[] #[])) = .func (.yield wd.heap.size) #[] #[] := rfl
  simp [rangeCall, resolve, hu, hc, Deferred.ofValue]
 ·simpa [invoke] using run_callFunc hent _ _
 ·have hreps : Reps (wd.alloc (.loop { state := .ready, pending := none, fn, tmps := a.tmps, params := ps, assign := x, body := y, defers := D })) (addX X wd.heap.size) (setι ι s.n wd.heap.size) (s.n + 1)
   (.yld s.n :: caps) (#[.func (.yield wd.heap.size) #[] #[]] ++ cus) := by
   refine ⟨by simp; omega, fun i e u he hu => ?_⟩
   cases i with
   | zero =>
     simp only [List.getElem?_cons_zero, Option.some.injEq] at he
     subst he
     rw [Array.getElem?_append] at hu
     simp at hu
     subst hu
     have := Rep.yld (w := wd.alloc (.loop { state := .ready, pending := none, fn, tmps := a.tmps, params := ps, assign := x, body := y, defers := D })) (X := addX X wd.heap.size)
      (ι := setι ι s.n wd.heap.size) (n := s.n + 1) s.n (by omega) (by rw [hι1]; simp)
     rwa [hι1] at this
   | succ i =>
     have hu' : cus[i]? = some u := by
      rw [Array.getElem?_append] at hu
      simpa using hu
     exact ((hr' i e u (by simpa using he) hu').ext h.wf hed).ext hwd he1
  refine callsIn_fw ((hw _ _ _ _ hw1 (by have := h.lkn; omega) hreps (he1.inv hwd (hed.inv h.wf h.inv))).mono fun e w' hh => ?_)
  obtain ⟨u, v, σ', n', X', ι', rfl, hm, hwf, -, hext⟩ := hh
  split at hm
  ·rename_i env ps' a' b' st pend hrow
   obtain ⟨hst, hq⟩ := hm
   obtain ⟨rec, hrec, hlr⟩ := hwf.loop _ _ _ _ _ _ _ hrow
   have hι' : ι' s.n = wd.heap.size := (hext.hι s.n (by omega)).trans hι1
   rw [hι'] at hrec
   obtain ⟨c1, c2⟩ := end_loop (lk := s.lk) (r' := { rec with state := .exhausted }) hwf (by rw [hrow]; simp) (by rw [hι']; exact hrec) h.lkn
   rw [hι'] at c1 c2
   have e04 := (hed.trans he1).trans (hext.trans c2)
   have hat : At B r N { s with σ := upd σ' s.n none, n := n' } { a with defers := mark ++ a.defers } (w'.putObj wd.heap.size (.loop { rec with state := .exhausted })) X' ι' := by
    refine ⟨c1, h.hlk, Nat.le_trans h.le e04.hn, h.size, fun t => (h.rep t).ext h.wf e04, h.ext.trans (by rw [← h.hlk]; exact e04), ?_, fun l hl => ?_, ?_⟩
    ·exact ((hmk.ext hwd he1).ext hw1 hext).ext hwf c2
    ·obtain ⟨rec0, h0⟩ := h.rnd l hl
     exact e04.loops _ _ h0
    ·exact e04.inv h.wf h.inv
   have hend := run_endLoop (P := P) hrec (by rw [hlr.hst]; cases st <;> simp [stM] at hst ⊢)
   generalize w'.putObj wd.heap.size (.loop { rec with state := .exhausted }) = W4 at hat hend
   refine ⟨rec.pending, W4, hend, ?_⟩
   rw [hlr.hpend]
   cases pend with
   | none => exact ⟨_, X', ι', hat, hq⟩
   | some ex =>
     cases ex with
     | normal => exact absurd rfl hlr.hpn
     | ret => exact wpIn_ret ⟨_, X', ι', hat, hq⟩
     | exit id => exact wpIn_exit ⟨_, X', ι', hat, hq⟩
  ·exact hm.elim
end
section
variable [Glob] {P : Program} {T : Tab} [PrimsOk P T] {B : Base} {r : Option Nat} {N : Nat}
theorem code_sound (hdraw : @DrawOk (lnk P T) _ P T) (hmix : P.follows .mixedOrders = true) : ∀ (c : Code) (ac : AC), cCode P N (ownB T) c = some ac → ∀ (s : St) (a : Act) (w : World)
 (X : Nat → Prop) (ι : Nat → Nat) (Q : Ex → St → Prop), @At (lnk P T) _ B r N s a w X ι → wpC T (@sndC (lnk P T) _ P T) ac s Q → c.wpIn (Fw r) 0 P (@PostOf (lnk P T) _ B r N Q) a w := by
 letI := lnk P T
 intro c
 induction c with
 | skip =>
   intro ac hc s a w X ι Q h hw
   simp only [cCode, Option.some.injEq] at hc; subst hc
   exact wpIn_skip ⟨s, X, ι, h, hw⟩
 | label l =>
   intro ac hc s a w X ι Q h hw
   simp only [cCode, Option.some.injEq] at hc; subst hc
   exact wpIn_label ⟨s, X, ι, h, hw⟩
 | exit id =>
   intro ac hc s a w X ι Q h hw
   simp only [cCode, Option.some.injEq] at hc; subst hc
   exact wpIn_exit ⟨s, X, ι, h, hw⟩
 | ret =>
   intro ac hc s a w X ι Q h hw
   simp only [cCode, Option.some.injEq] at hc; subst hc
   exact wpIn_ret ⟨s, X, ι, h, hw⟩
 | goto l => intro ac hc; simp [cCode] at hc
 | refuse why => intro ac hc; simp [cCode] at hc
 | scope c ih =>
   intro ac hc s a w X ι Q h hw
   simp only [cCode] at hc
   exact wpIn_scope (fun l a w hh => hh) (ih ac hc s a w X ι Q h hw)
 | seq x y ihx ihy =>
   intro ac hc s a w X ι Q h hw
   simp only [cCode, Option.bind_eq_bind, Option.bind_eq_some_iff, Option.some.injEq] at hc
   obtain ⟨ax, hx, ay, hy, rfl⟩ := hc
   simp only [wpC] at hw
   refine wpIn_seq (wpIn_mono (ihx ax hx s a w X ι _ h hw) (fun e a' w' hh => ?_))
   cases e with
   | normal =>
     obtain ⟨s', X', ι', h1, h2⟩ := hh
     exact ihy ay hy s' a' w' X' ι' Q h1 h2
   | exit id => exact hh
   | ret => exact hh
   | goto l => exact hh.elim
   | panic ch => exact hh.elim
   | outgrown => exact hh.elim
 | cond x y z ihy ihz =>
   intro ac hc s a w X ι Q h hw
   simp only [cCode, Option.bind_eq_bind, Option.bind_eq_some_iff, Option.some.injEq] at hc
   obtain ⟨x', hx, ay, hy, az, hz, rfl⟩ := hc
   simp only [wpC] at hw
   have he := h.eval hx
   split at hw
   ·rename_i hv
    rw [hv] at he
    exact wpIn_cond (rep_bool' he) (ihy ay hy s a w X ι Q h hw)
   ·rename_i hv
    rw [hv] at he
    exact wpIn_cond (rep_bool' he) (ihz az hz s a w X ι Q h hw)
   ·exact hw.elim
 | block id c ih =>
   intro ac hc s a w X ι Q h hw
   simp only [cCode, Option.map_eq_some_iff] at hc
   obtain ⟨ac', hc', rfl⟩ := hc
   simp only [wpC] at hw
   refine wpIn_block (wpIn_mono (ih ac' hc' s a w X ι _ h hw) (fun e a' w' hh => ?_))
   cases e with
   | normal => exact hh
   | exit i =>
     obtain ⟨s', X', ι', h1, h2⟩ := hh
     simp only [blockW] at h2
     simp only [Exit.inBlock]
     split at h2 <;> rename_i hi
     ·rw [if_pos hi]; exact ⟨s', X', ι', h1, h2⟩
     ·rw [if_neg hi]; exact ⟨s', X', ι', h1, h2⟩
   | ret => exact hh
   | goto l => exact hh.elim
   | panic ch => exact hh.elim
   | outgrown => exact hh.elim
 | loop c ih =>
   intro ac hc s a w X ι Q h hw
   simp only [cCode, Option.map_eq_some_iff] at hc
   obtain ⟨ac', hc', rfl⟩ := hc
   simp only [wpC] at hw
   have := hw (fun s => ∀ (a : Act) (w : World) (X : Nat → Prop) (ι : Nat → Nat), At B r N s a w X ι → LoopAt (Fw r) P c (PostOf B r N Q) a w) (fun s hs a w X ι h => by
    refine LoopAt.step (wpIn_mono (ih ac' hc' s a w X ι _ h hs) (fun e a' w' hh => ?_))
    cases e with
    | normal =>
      obtain ⟨s', X', ι', h1, h2⟩ := hh
      exact h2 a' w' X' ι' h1
    | exit id => exact hh
    | ret => exact hh
    | goto l => exact hh.elim
    | panic ch => exact hh.elim
    | outgrown => exact hh.elim)
   exact (this a w X ι h).loop
 | region id ops draw =>
   intro ac hc s a w X ι Q h hw
   simp only [cCode] at hc
   split at hc
   ·rename_i hd
    subst hd
    simp only [Option.map_eq_some_iff] at hc
    obtain ⟨segs, hds, rfl⟩ := hc
    simp only [wpC] at hw
    exact hdraw B r N id ops segs s a w X ι Q hds h hw
   ·rename_i hd
    have hd' : draw = false := by simpa using hd
    subst hd'
    simp only [Option.map_eq_some_iff] at hc
    obtain ⟨al, hal, rfl⟩ := hc
    simp only [wpC] at hw
    exact wpIn_region_list (wpR_sound (Q := fun s => Q .normal s) (fun s a w X ι h1 h2 => ⟨s, X, ι, h1, h2⟩) _ _ hal s a w X ι h hw)
 | rangeFunc g ps x y ihx ihy =>
   intro ac hc s a w X ι Q h hw
   simp only [cCode, Option.bind_eq_bind, Option.bind_eq_some_iff] at hc
   obtain ⟨g', hg, ax, hx, ay, hy, hc⟩ := hc
   split at hc
   ·rename_i hps
    simp only [Option.some.injEq] at hc; subst hc
    simp only [wpC, rangeW] at hw
    have hge := h.eval hg
    split at hw
    ·rename_i f caps hval
     rw [hval] at hge
     generalize hu : a.eval g = u at hge
     cases hge with
     | fn _ _ cus hl' hr' =>
       obtain ⟨hlk, ⟨hent, hw⟩⟩ := hw
       exact range_sound h hg hu hl' hr' (fun p hp => by simpa using List.all_eq_true.1 hps p (by simpa using hp)) hx hy hent hw
    ·exact hw.elim
   ·cases hc
end
end Go.Q
end

section
/- Calls, run as the evaluator says. -/
namespace Go.Q
section
variable [Link] [Glob] {P : Program} {T : Tab} [PrimsOk P T] {B : Base} {r : Option Nat} {N : Nat} {s : St} {a : Act} {w : World} {X : Nat → Prop} {ι : Nat → Nat}
def resSem (tmps : Array Value) : ResultVar → Sem Value
 | .tmp t => pure (tmps.getD t undef)
 | .cell a t => do loadVar t (← asAddr (tmps.getD a undef))
theorem results_eq (fn : Func) (tmps : Array Value) : results fn tmps = (do let vs ← fn.results.mapM (resSem tmps); pure (if h : vs.size = 1 then vs[0] else .tuple vs)) := by
 unfold results
 congr 1
 try (congr 1)
 try (funext x; cases x <;> rfl)
theorem res_sound (h : At B r N s a w X ι) {x : ResultVar} {y : Res} (hc : cRes P x = some y) {v : V} (ho : resOf s y = some v) :
 ∃ u, (resSem a.tmps x).run P w = .ok u w ∧ Rep w X ι s.n v u := by
 cases x with
 | tmp t =>
   simp only [cRes, Option.some.injEq] at hc; subst hc
   simp only [resOf, Option.some.injEq] at ho; subst ho
   exact ⟨_, rfl, h.rep t⟩
 | cell t ty =>
   simp only [cRes, Option.bind_eq_bind, Option.bind_eq_some_iff] at hc
   obtain ⟨i, hi, hc⟩ := hc
   split at hc
   ·rename_i h1
    simp only [Option.some.injEq] at hc; subst hc
    simp only [Bool.or_eq_true, beq_iff_eq] at h1
    simp only [resOf] at ho
    have hr := h.rep t
    split at ho
    ·rename_i id sz' q j henv
     rw [henv] at hr
     simp only [Option.bind_eq_some_iff] at ho
     obtain ⟨e, he, hl⟩ := ho
     obtain ⟨_, u, hu⟩ := rep_at h.wf he
     generalize hx : a.tmps.getD t undef = x at hr
     cases hr with
     | ptr _ _ _ _ hid =>
       obtain ⟨z, hz, hrz⟩ := load_sound (P := P) (w := w) (X := X) (ι := ι) (n := s.n) (b := ι id) (o := q * sz' + j) (u := fun k => u (j + k)) hi h1 (cs := e.cells.drop j)
        (fun k c hk => by rw [List.getElem?_drop] at hk; have := hu _ _ hk; rwa [← Nat.add_assoc] at this) hl
       exact ⟨z, by simp only [resSem, hx]; simp [asAddr, Sem.run_bind, hz], hrz⟩
    ·cases ho
   ·cases hc
theorem resL_sound (h : At B r N s a w X ι) : ∀ (xs : List ResultVar) (ys : List Res) (vs : List V), xs.mapM (cRes P) = some ys → ys.mapM (resOf s) = some vs →
 ∃ us : List Value, (xs.mapM (resSem a.tmps)).run P w = .ok us w ∧ us.length = vs.length ∧ ∀ (i : Nat) (v : V) (u : Value), vs[i]? = some v → us[i]? = some u → Rep w X ι s.n v u
 | [], ys, vs, h1, h2 => by
   simp at h1; subst h1; simp at h2; subst h2
   exact ⟨[], by simp, rfl, fun i v u hv => by simp at hv⟩
 | x :: xs, ys, vs, h1, h2 => by
   simp only [List.mapM_cons, Option.pure_def, Option.bind_eq_bind, Option.bind_eq_some_iff, Option.some.injEq] at h1
   obtain ⟨y, hy, ys', hys, rfl⟩ := h1
   simp only [List.mapM_cons, Option.pure_def, Option.bind_eq_bind, Option.bind_eq_some_iff, Option.some.injEq] at h2
   obtain ⟨v, hv, vs', hvs, rfl⟩ := h2
   obtain ⟨u, hu, hr⟩ := res_sound h hy hv
   obtain ⟨us, hus, hl, hrs⟩ := resL_sound h xs ys' vs' hys hvs
   refine ⟨u :: us, by simp [List.mapM_cons, Sem.run_bind, hu, hus], by simp [hl], fun i v' u' hv' hu' => ?_⟩
   cases i with
   | zero => simp at hv' hu'; subst hv'; subst hu'; exact hr
   | succ i => exact hrs i v' u' (by simpa using hv') (by simpa using hu')
theorem results_sound (h : At B r N s a w X ι) {fn : Func} {rs : List Res} (hc : fn.results.toList.mapM (cRes P) = some rs) {v : V} (ho : outOf s rs = some v) :
 ∃ u, (results fn a.tmps).run P w = .ok u w ∧ Rep w X ι s.n v u := by
 have hlen := (mapM_get' _ _ _ hc).1
 have key : ∀ vs, rs.mapM (resOf s) = some vs → ∃ us : List Value, (fn.results.mapM (resSem a.tmps)).run P w = .ok us.toArray w ∧ us.length = vs.length ∧
  ∀ (i : Nat) (v : V) (u : Value), vs[i]? = some v → us[i]? = some u → Rep w X ι s.n v u := by
  intro vs hvs
  obtain ⟨us, h1, h2, h3⟩ := resL_sound h _ _ _ hc hvs
  refine ⟨us, ?_, h2, h3⟩
  rw [Array.mapM_eq_mapM_toList]
  simp only [Sem.run_map, h1, Result.andThen_ok]
 rw [results_eq]
 match rs, ho with
 | [], ho =>
   simp only [outOf, Option.some.injEq] at ho; subst ho
   obtain ⟨us, h1, h2, -⟩ := key [] rfl
   have : us = [] := by cases us; rfl; simp at h2
   subst this
   exact ⟨.tuple #[], by simp [Sem.run_bind, h1], .undef⟩
 | [y], ho =>
   simp only [outOf] at ho
   obtain ⟨us, h1, h2, h3⟩ := key [v] (by simp [List.mapM_cons, ho])
   match us, h2 with
   | [u], _ => exact ⟨u, by simp [Sem.run_bind, h1], h3 0 v u rfl rfl⟩
 | y :: y' :: ys, ho =>
   simp only [outOf, Option.map_eq_some_iff] at ho
   obtain ⟨vs, hvs, rfl⟩ := ho
   obtain ⟨us, h1, h2, h3⟩ := key vs hvs
   have hvl := (mapM_get' _ _ _ hvs).1
   simp only [List.length_cons] at hvl
   refine ⟨.tuple us.toArray, ?_, .tup _ _ (by simp [h2]) (fun i e u he hu => h3 i e u he (by simpa using hu))⟩
   have hne : us.length ≠ 1 := by omega
   simp [Sem.run_bind, h1, hne]
theorem Ext.put_new {w0 w : World} {X0 X : Nat → Prop} {ι0 ι : Nat → Nat} {σ0 σ : Sto} {n0 n lk : Nat} (h : Ext w0 w X0 X ι0 ι σ0 σ n0 n lk) {b : Nat} (hb : w0.heap.size ≤ b) (o : Obj) :
 Ext w0 (w.putObj b o) X0 X ι0 ι σ0 σ n0 n lk where
 hn := h.hn
 os := h.os
 tape := h.tape
 output := h.output
 size := by simpa using h.size
 heap := fun k hk ho => by rw [World.putObj_heap_other (by omega)]; exact h.heap k hk ho
 cells := fun k c t f hk => by
  have hlt := (Array.getElem?_eq_some_iff.1 hk).1
  rw [World.putObj_heap_other (by omega)]; exact h.cells k c t f hk
 loops := fun k q hk => by
  have hlt := (Array.getElem?_eq_some_iff.1 hk).1
  rw [World.putObj_heap_other (by omega)]; exact h.loops k q hk
 hι := h.hι
 xnew := h.xnew
 xold := h.xold
 xlt := h.xlt
 own := h.own
 lock := h.lock
theorem leaves {fn : Func} {R : Ending → World → Prop} {tmps : Array Value} : ∀ (rs : List Nat) (a : Act) (w : World), At B none N s a w X ι → a.tmps = tmps → a.defers = rs.map markOf → rs.Nodup →
 (∀ q ∈ rs, B.w.heap.size ≤ q ∧ w.heap[q]? = some (.deferred (some [])) ∧ ¬ X q) →
 (∀ (a : Act) (w : World), At B none N s a w X ι → a.tmps = tmps → ∃ v, (results fn tmps).run P w = .ok v w ∧ R (.returned v) w) →
 LeavesInM Fence.wide 0 P fn tmps R (rs.map markOf) .returning w
 | [], a, w, h, ht, _, _, _, hR => by
   simp only [List.map_nil, LeavesInM, LeavesIn]
   exact hR a w h ht
 | q :: rs, a, w, h, ht, hd, hn, hm, hR => by
   simp only [List.map_cons, LeavesInM]
   obtain ⟨m1, m2, m3⟩ := hm q (by simp)
   have hc : ∀ c t f, Obj.deferred (some []) ≠ .cells c t f := fun _ _ _ h => by cases h
   have hv : ∀ c t, Obj.deferred (some []) ≠ .pending c t := fun _ _ h => by cases h
   obtain ⟨hn1, hn2⟩ := List.nodup_cons.1 hn
   have hrest : ∀ q' ∈ rs, B.w.heap.size ≤ q' ∧ (w.putObj q (.deferred none)).heap[q']? = some (.deferred (some [])) ∧ ¬ X q' := fun q' hq' => by
    obtain ⟨c1, c2, c3⟩ := hm q' (List.mem_cons_of_mem _ hq')
    exact ⟨c1, by
     have hne : q' ≠ q := fun e => hn1 (e ▸ hq')
     rw [World.putObj_heap_other hne]; exact c2, c3⟩
   refine ⟨by simp, .inl ⟨q, _, rfl, run_takeDeferred m2, ?_⟩⟩
   refine leaves rs { a with defers := rs.map markOf } _ ?_ ht rfl hn2 hrest hR
   exact ⟨put_dead h.wf m2 hc hv (fun id hid e => m3 (e ▸ h.wf.own id hid)), h.hlk, h.le, h.size, fun t => (h.rep t).put m2 hc hv, h.ext.put_new m1 _,
    ⟨rs, rfl, hn2, hrest⟩, fun l hl => (by cases hl), Glob.move (fun b c t f hb hx => ⟨World.putObj_heap_other (fun e => by rw [e, m2] at hb; cases hb), hx⟩) h.inv⟩
end
end Go.Q
end
