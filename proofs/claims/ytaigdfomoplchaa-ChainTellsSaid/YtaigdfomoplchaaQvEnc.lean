/- What a statement's arguments are, as trees. -/
import Derived.Test.YtaigdfomoplchaaQvEnd
import Derived.ChangeArms
import Derived.ChangeOld
import Derived.OpenShut
import Derived.SizedLaws
set_option linter.unusedSimpArgs false
set_option linter.unusedVariables false
set_option linter.unusedSectionVars false
namespace Go.Q

/-- Cells that stand for a row of values. -/
def Cs (W : World) (vs : List V) (cs : List Value) : Prop :=
  vs.length = cs.length ∧ (∀ (i : Nat) (e : V) (u : Value), vs[i]? = some e → cs[i]? = some u → Rep W (fun _ => False) (fun _ => 0) 0 e u) ∧ vs.all V.one = true

/-- How what stands at a type is written down. -/
structure Enc (P : Program) (t : TypeId) (α : Type) where
  val : α → V
  ok : α → Prop
  opens : ∀ {H : Type} {enc : TypeId × Value → H} {W : World} {held : Bool} {fuel : Nat} {cs : List Value} {x : DataW H × List MemPlace},
    DataW.trod enc P W 0 (fun _ => true) held fuel t cs = some x → (∀ n ∈ x.1.weights P t, n ≤ reachBytes) → ∃ a, ok a ∧ Cs W (val a).cells cs

theorem weightsAll_mem {H : Type} {P : Program} {e : TypeId} {d : DataW H} : ∀ {ds : List (DataW H)}, d ∈ ds → ∀ n ∈ d.weights P e, n ∈ DataW.weightsAll P e ds
  | d0 :: ds, h, n, hn => by
    simp only [DataW.weightsAll, List.mem_append]
    rcases List.mem_cons.1 h with rfl | h
    · exact .inl hn
    · exact .inr (weightsAll_mem h n hn)

section
variable {P : Program}

def Enc.int {t : TypeId} (k : IntKind) (ht : P.underlying t = some (.int k)) : Enc P t Int where
  val := .int k
  ok := fun n => (Lit.int k n).wf = true
  opens := fun h _ => by
    obtain ⟨n, rfl, -, hw⟩ := DataW.trod_int ht h
    exact ⟨n, hw, rfl, fun i e u he hu => by
      cases i with
      | zero => simp [V.cells] at he hu; subst he; subst hu; exact .int _ _
      | succ i => simp at hu, rfl⟩

def Enc.bool {t : TypeId} (ht : P.underlying t = some .bool) : Enc P t Bool where
  val := .bool
  ok := fun _ => True
  opens := fun h _ => by
    obtain ⟨n, rfl, -⟩ := DataW.trod_bool ht h
    exact ⟨n, trivial, rfl, fun i e u he hu => by
      cases i with
      | zero => simp [V.cells] at he hu; subst he; subst hu; exact .bool _
      | succ i => simp at hu, rfl⟩

def Enc.str {t : TypeId} (ht : P.underlying t = some .string) : Enc P t ByteArray where
  val := .str
  ok := fun s => s.size ≤ reachBytes
  opens := fun {H enc W held fuel cs x} h hwt => by
    obtain ⟨n, rfl, hx, hw⟩ := DataW.trod_string ht h
    have hsz : n.size ≤ reachBytes := by
      subst hx
      have hwt : ∀ m ∈ DataW.weights P t (DataW.lit (H := H) (Lit.string n.data.toList)), m ≤ reachBytes := hwt
      have := hwt n.data.toList.length (by simp only [DataW.weights, List.mem_singleton])
      rw [Array.length_toList] at this
      exact this
    exact ⟨n, hsz, rfl, fun i e u he hu => by
      cases i with
      | zero => simp [V.cells] at he hu; subst he; subst hu; exact .str _
      | succ i => simp at hu, rfl⟩

/-- A slice: nil, or the list of its elements. -/
def slV {β : Type} (sz : Nat) (f : β → V) : Option (List β) → V
  | none => .nilS
  | some l => .sl sz (l.map f)

theorem addr_plain {a : Addr} {W : World} {u : Value} (h : W.cell? a = some u) : a.spot = none := by
  unfold World.cell? at h
  split at h
  · split at h
    · cases h
    · rename_i hs; cases hsp : a.spot with
      | none => rfl
      | some k => rw [hsp] at hs; simp at hs
  · cases h

theorem list_choose {β : Type} {n : Nat} {p : Nat → β → Prop} (h : ∀ i, i < n → ∃ b, p i b) : ∃ l : List β, l.length = n ∧ ∀ (i : Nat) (b : β), l[i]? = some b → p i b := by
  induction n with
  | zero => exact ⟨[], rfl, fun i b hb => by simp at hb⟩
  | succ n ih =>
    obtain ⟨l, h1, h2⟩ := ih (fun i hi => h i (by omega))
    obtain ⟨b, hb⟩ := h n (by omega)
    refine ⟨l ++ [b], by simp [h1], fun i b' hb' => ?_⟩
    rw [List.getElem?_append] at hb'
    split at hb'
    · exact h2 i b' hb'
    · rename_i hn
      have hi : i = n := by
        have := (List.getElem?_eq_some_iff.1 hb').1
        simp at this
        omega
      subst hi
      rw [h1] at hb'
      simp at hb'
      subst hb'
      exact hb

def Enc.slice {t e : TypeId} {β : Type} (E : Enc P e β) (ht : P.underlying t = some (.slice e)) (sz : Nat) (hsz : P.cellsOf e = sz) (hpos : 0 < sz) (B : Nat) (hB : P.bytesOf e = B) : Enc P t (Option (List β)) where
  val := slV sz E.val
  ok := fun o => ∀ l, o = some l → l.length ≤ maxLen ∧ l.length * B ≤ reachBytes ∧ ∀ b ∈ l, E.ok b
  opens := fun {H enc W held fuel cs x} h hwt => by
    letI : Link := ⟨fun _ _ _ => False⟩
    rcases DataW.trod_slice ht h with ⟨rfl, -⟩ | ⟨a, len, cap, elems, rest, n, rfl, rfl, rfl, hb, hlc, hcm, hel, hget, -, -⟩
    · refine ⟨none, (fun l hl => by cases hl), rfl, fun i e u he hu => ?_, rfl⟩
      cases i with
      | zero => simp [V.cells, slV] at he hu; subst he; subst hu; exact .nilS
      | succ i => simp at hu
    · rw [hsz] at hget
      have hwt : ∀ n ∈ DataW.weights P t (DataW.slice (elems.map (·.1)) (rest.map (·.1))), n ≤ reachBytes := hwt
      simp only [DataW.weights, ht, List.mem_cons, List.mem_append, List.length_map] at hwt
      have hlen : len * B ≤ reachBytes := by
        have h1 := hwt _ (.inl rfl)
        rw [hB, hel] at h1
        exact Nat.le_trans (Nat.mul_le_mul_right B (Nat.le_add_right len rest.length)) h1
      have key : ∀ i, i < len → ∃ b, E.ok b ∧ ∃ ds, W.cells? 0 (a.add (i * sz)) sz = some ds ∧ Cs W (E.val b).cells ds := fun i hi => by
        have hi' : i < elems.length := by omega
        have := hget i hi
        rw [List.getElem?_eq_getElem hi', Option.bind_eq_some_iff] at this
        obtain ⟨ds, h1, h2⟩ := this
        obtain ⟨b, hok, hcs⟩ := E.opens h2 (fun n hn => hwt n (.inr (.inl (weightsAll_mem (List.mem_map_of_mem (List.getElem_mem hi')) n hn))))
        exact ⟨b, hok, ds, h1, hcs⟩
      obtain ⟨l, hl, hp⟩ := list_choose key
      refine ⟨some l, fun l' hl' => ?_, rfl, fun i e u he hu => ?_, rfl⟩
      · cases hl'
        refine ⟨by omega, by rw [hl]; exact hlen, fun b hb => ?_⟩
        obtain ⟨i, hi, rfl⟩ := List.getElem_of_mem hb
        exact (hp i _ (List.getElem?_eq_getElem hi)).1
      · cases i with
        | succ i => simp at hu
        | zero =>
          simp [V.cells, slV] at he hu
          subst he; subst hu
          cases l with
          | nil =>
            simp at hl
            subst hl
            exact .slE sz cap a
          | cons b0 l0 =>
            -- the slice stands at a plain address
            obtain ⟨-, ds0, hd0, -⟩ := hp 0 b0 rfl
            simp only [Nat.zero_mul] at hd0
            have ha0 : a.add 0 = a := by simp [Addr.add]
            rw [ha0] at hd0
            obtain ⟨-, hdl, hdc⟩ := World.cells?_some hd0
            have h0 := hdc 0 hpos
            rw [ha0, List.getElem?_eq_getElem (by omega)] at h0
            have hspot := addr_plain h0
            have hlt := World.cells?_block hd0 hpos
            obtain ⟨blk, o, sp⟩ := a
            simp only at hspot hlt
            subst hspot
            have hcell : ∀ (i : Nat) (b : β) (j : Nat) (e : V), (b0 :: l0)[i]? = some b → (E.val b).cells[j]? = some e →
                ∃ u, W.cell? ⟨blk, o + i * sz + j, none⟩ = some u ∧ Rep W (fun _ => False) (fun _ => 0) 0 e u := by
              intro i b j e hb he
              obtain ⟨-, ds, hds, hc1, hc2, -⟩ := hp i b hb
              obtain ⟨-, hdl', hdc'⟩ := World.cells?_some hds
              have hj : j < ds.length := by have := (List.getElem?_eq_some_iff.1 he).1; omega
              have := hdc' j (by omega)
              rw [add_none, add_none, List.getElem?_eq_getElem hj] at this
              exact ⟨ds[j], this, hc2 j e _ he (List.getElem?_eq_getElem hj)⟩
            have hlen : len = ((b0 :: l0).map E.val).length := by rw [List.length_map]; exact hl.symm
            rw [hlen]
            refine .sl sz ((b0 :: l0).map E.val) blk o cap (fun i j => (W.cell? ⟨blk, o + i * sz + j, none⟩).getD undef) (by omega) (fun h => h) hlt (fun i x hx => ?_) (fun i x j e hx he => ?_) (fun i x j e hx he => ?_)
            · rw [List.getElem?_map, Option.map_eq_some_iff] at hx
              obtain ⟨b, hb, rfl⟩ := hx
              obtain ⟨-, ds, hds, hc1, -, hc3⟩ := hp i b hb
              obtain ⟨-, hdl', -⟩ := World.cells?_some hds
              exact ⟨hc1.trans hdl', hc3⟩
            · rw [List.getElem?_map, Option.map_eq_some_iff] at hx
              obtain ⟨b, hb, rfl⟩ := hx
              obtain ⟨u, hu, -⟩ := hcell i b j e hb he
              rw [hu]; rfl
            · rw [List.getElem?_map, Option.map_eq_some_iff] at hx
              obtain ⟨b, hb, rfl⟩ := hx
              obtain ⟨u, hu, hr⟩ := hcell i b j e hb he
              rw [hu]; exact hr

/-- The fields of a struct, from a cell on. -/
structure EncF (P : Program) (off : Nat) (fs : List Field) (tot : Nat) (α : Type) where
  val : α → List V
  ok : α → Prop
  opens : ∀ {H : Type} {enc : TypeId × Value → H} {W : World} {held : Bool} {fuel : Nat} {cs : List Value},
    (∀ f ∈ fs, ∃ x, DataW.trod enc P W 0 (fun _ => true) held fuel f.type ((cs.drop f.offset).take (P.cellsOf f.type)) = some x ∧ ∀ n ∈ x.1.weights P f.type, n ≤ reachBytes) → ∃ a, ok a ∧ Cs W (val a) ((cs.drop off).take tot)

def EncF.nil {off : Nat} : EncF P off [] 0 Unit where
  val := fun _ => []
  ok := fun _ => True
  opens := fun _ => ⟨(), trivial, by simp [Cs]⟩

theorem Cs.append {W : World} {vs vs' : List V} {cs cs' : List Value} (h : Cs W vs cs) (h' : Cs W vs' cs') : Cs W (vs ++ vs') (cs ++ cs') := by
  obtain ⟨a1, a2, a3⟩ := h
  obtain ⟨b1, b2, b3⟩ := h'
  refine ⟨by simp [a1, b1], fun i e u he hu => ?_, by simp [a3, b3]⟩
  rw [List.getElem?_append] at he hu
  rw [a1] at he
  split at he
  · rename_i hlt
    rw [if_pos hlt] at hu; exact a2 i e u he hu
  · rename_i hlt
    rw [if_neg hlt] at hu; exact b2 _ e u he hu

def EncF.cons {off tot sz : Nat} {f : Field} {fs : List Field} {β γ : Type} (E : Enc P f.type β) (hoff : f.offset = off) (hsz : P.cellsOf f.type = sz) (R : EncF P (off + sz) fs tot γ) :
    EncF P off (f :: fs) (sz + tot) (β × γ) where
  val := fun x => (E.val x.1).cells ++ R.val x.2
  ok := fun x => E.ok x.1 ∧ R.ok x.2
  opens := fun {H enc W held fuel cs} h => by
    obtain ⟨x, hx, hwx⟩ := h f (by simp)
    obtain ⟨b, hb, hcb⟩ := E.opens hx hwx
    obtain ⟨c, hc, hcc⟩ := R.opens (fun g hg => h g (List.mem_cons_of_mem _ hg))
    refine ⟨(b, c), ⟨hb, hc⟩, ?_⟩
    rw [hoff, hsz] at hcb
    have : (cs.drop off).take (sz + tot) = (cs.drop off).take sz ++ (cs.drop (off + sz)).take tot := by
      rw [List.take_add, List.drop_drop]
    rw [this]
    exact hcb.append hcc

def Enc.struct {t : TypeId} {fs : Array Field} {tot : Nat} {α : Type} (R : EncF P 0 fs.toList tot α) (ht : P.underlying t = some (.struct fs)) (htot : P.cellsOf t = tot) : Enc P t α where
  val := fun a => .agg (R.val a)
  ok := R.ok
  opens := fun {H enc W held fuel cs x} h hwt => by
    obtain ⟨xs, n, rfl, rfl, hl, hlx, hget⟩ := DataW.trod_struct ht h
    simp only [DataW.weights, ht] at hwt
    obtain ⟨a, ha, hc⟩ := R.opens (enc := enc) (W := W) (held := held) (fuel := n) (cs := cs) (fun f hf => by
      obtain ⟨i, hi, rfl⟩ := List.getElem_of_mem hf
      have hi' : i < fs.size := by simpa using hi
      have hix : i < xs.length := by omega
      have := hget i fs[i] (Array.getElem?_eq_getElem hi')
      rw [List.getElem?_eq_getElem hix] at this
      refine ⟨_, by simpa using this, fun m hm => hwt m (DataW.weights_mem_each (j := i) (t := fs.toList[i].type) (d := xs[i].1) ?_ ?_ m hm)⟩
      · rw [List.getElem?_map, List.getElem?_eq_getElem hi]; rfl
      · rw [List.getElem?_map, List.getElem?_eq_getElem hix]; rfl)
    refine ⟨a, ha, ?_⟩
    rw [htot] at hl
    simpa [V.cells, ← hl] using hc

theorem Cs.flat {W : World} {β : Type} (f : β → List V) (g : Nat → List Value) : ∀ (l : List β) (k : Nat), (∀ (i : Nat) (b : β), l[i]? = some b → Cs W (f b) (g (k + i))) → Cs W (l.flatMap f) ((List.range' k l.length).flatMap g)
  | [], k, _ => by simp [Cs]
  | b :: l, k, h => by
    rw [List.flatMap_cons, List.length_cons, List.range'_succ, List.flatMap_cons]
    refine Cs.append (by simpa using h 0 b rfl) (Cs.flat f g l (k + 1) (fun i c hc => ?_))
    have := h (i + 1) c (by simpa using hc)
    rwa [show k + (i + 1) = k + 1 + i from by omega] at this

theorem chunks {α : Type} (sz : Nat) : ∀ (n k : Nat) (cs : List α), (List.range' k n).flatMap (fun i => (cs.drop (i * sz)).take sz) = (cs.drop (k * sz)).take (n * sz)
  | 0, k, cs => by simp
  | n + 1, k, cs => by
    rw [List.range'_succ, List.flatMap_cons, chunks sz n (k + 1) cs, Nat.succ_mul k, Nat.succ_mul n, Nat.add_comm (n * sz) sz, List.take_add, List.drop_drop]

/-- An array: so many of one kind. -/
def Enc.array {t e : TypeId} {β : Type} (E : Enc P e β) (n : Nat) (ht : P.underlying t = some (.array n e)) (sz : Nat) (hsz : P.cellsOf e = sz) (htot : P.cellsOf t = n * sz) : Enc P t (List β) where
  val := fun l => .agg (l.flatMap fun b => (E.val b).cells)
  ok := fun l => l.length = n ∧ ∀ b ∈ l, E.ok b
  opens := fun {H enc W held fuel cs x} h hwt => by
    obtain ⟨xs, m, rfl, rfl, hl, hlx, hget⟩ := DataW.trod_array ht h
    simp only [DataW.weights, ht] at hwt
    rw [hsz] at hget
    rw [htot] at hl
    have key : ∀ i, i < n → ∃ b, E.ok b ∧ Cs W (E.val b).cells ((cs.drop (i * sz)).take sz) := fun i hi => by
      have hix : i < xs.length := by omega
      have := hget i hi
      rw [List.getElem?_eq_getElem hix] at this
      exact E.opens this (fun k hk => hwt k (weightsAll_mem (List.mem_map_of_mem (List.getElem_mem hix)) k hk))
    obtain ⟨l, hll, hp⟩ := list_choose key
    refine ⟨l, ⟨hll, fun b hb => ?_⟩, ?_⟩
    · obtain ⟨i, hi, rfl⟩ := List.getElem_of_mem hb
      exact (hp i _ (List.getElem?_eq_getElem hi)).1
    · have h1 := Cs.flat (W := W) (fun b => (E.val b).cells) (fun i => (cs.drop (i * sz)).take sz) l 0 (fun i b hb => by simpa using (hp i b hb).2)
      rw [chunks, hll, Nat.zero_mul, List.drop_zero, ← hl, List.take_length] at h1
      exact h1

end
end Go.Q
