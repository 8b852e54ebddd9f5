/- What single operations come to at encoded slices; cells of values. -/
import Derived.Test.YtaigdfomoplchaaQvSet
import Derived.Test.YtaigdfomoplchaaQvEnc
set_option linter.unusedSimpArgs false
set_option linter.unusedVariables false
namespace Go.Q

variable {T : Tab}

theorem one_int (k : IntKind) (x : Int) : (V.int k x).one = true := rfl
theorem one_bool (x : Bool) : (V.bool x).one = true := rfl
theorem one_str (x : ByteArray) : (V.str x).one = true := rfl
theorem one_nilS : V.nilS.one = true := rfl
theorem one_nilF : V.nilF.one = true := rfl
theorem one_nilP : V.nilP.one = true := rfl
theorem one_nilI : V.nilI.one = true := rfl
theorem one_sl (sz : Nat) (xs : List V) : (V.sl sz xs).one = true := rfl
theorem one_ref (id off len sz : Nat) : (V.ref id off len sz).one = true := rfl
theorem one_ptr (id sz i j : Nat) : (V.ptr id sz i j).one = true := rfl
theorem one_box (xs : List V) : (V.box xs).one = true := rfl
theorem one_fn (f : Nat) (xs : List V) : (V.fn f xs).one = true := rfl
theorem one_iface (t : Nat) (x : V) : (V.iface t x).one = true := rfl
theorem cl_agg (xs : List V) : (V.agg xs).cells = xs := rfl
theorem cl_int (k : IntKind) (x : Int) : (V.int k x).cells = [.int k x] := rfl
theorem cl_bool (x : Bool) : (V.bool x).cells = [.bool x] := rfl
theorem cl_str (x : ByteArray) : (V.str x).cells = [.str x] := rfl
theorem cl_nilS : V.nilS.cells = [.nilS] := rfl
theorem cl_nilF : V.nilF.cells = [.nilF] := rfl
theorem cl_nilP : V.nilP.cells = [.nilP] := rfl
theorem cl_nilI : V.nilI.cells = [.nilI] := rfl
theorem cl_sl (sz : Nat) (xs : List V) : (V.sl sz xs).cells = [.sl sz xs] := rfl
theorem cl_ref (id off len sz : Nat) : (V.ref id off len sz).cells = [.ref id off len sz] := rfl
theorem cl_ptr (id sz i j : Nat) : (V.ptr id sz i j).cells = [.ptr id sz i j] := rfl
theorem cl_box (xs : List V) : (V.box xs).cells = [.box xs] := rfl
theorem cl_fn (f : Nat) (xs : List V) : (V.fn f xs).cells = [.fn f xs] := rfl
theorem cl_iface (t : Nat) (x : V) : (V.iface t x).cells = [.iface t x] := rfl

section
variable {β : Type} (sz : Nat) (f : β → V) (o : Option (List β))

def lst {β : Type} (o : Option (List β)) : List β := o.getD []
theorem lst_some (l : List β) : lst (some l) = l := rfl
theorem lst_none : lst (none : Option (List β)) = [] := rfl
theorem slV_some (l : List β) : slV sz f (some l) = .sl sz (l.map f) := rfl
theorem slV_none : slV sz f none = .nilS := rfl

theorem one_slV : (slV sz f o).one = true := by cases o <;> rfl
theorem cl_slV : (slV sz f o).cells = [slV sz f o] := by cases o <;> rfl
theorem frz_slV (σ : Sto) (k : Nat) : frz σ (k + 1) (slV sz f o) = some (slV sz f o) := by cases o <;> rfl
theorem rch_slV (σ : Sto) (k : Nat) : rch σ (k + 1) (slV sz f o) = [] := by cases o <;> rfl
theorem thaw_slV (σ : Sto) (n : Nat) : thaw σ n (slV sz f o) = (slV sz f o, σ, n) := by cases o <;> rfl
theorem lenE_slV : lenE (slV sz f o) = some (.int .i64 ((lst o).length : Int)) := by cases o <;> simp [slV, lst, lenE, lenOf]
theorem iaddrE_slV (k : IntKind) (i : Nat) : iaddrE sz (slV sz f o) (.int k (i : Int)) = ((lst o)[i]?).map fun e => .box (f e).cells := by
  cases o with
  | none => simp [slV, lst, iaddrE]
  | some l => rw [slV_some, iaddrE_sl, List.getElem?_map]; cases h : l[i]? <;> simp [lst, h]
theorem iaddrE_slV0 (k : IntKind) : iaddrE sz (slV sz f o) (.int k 0) = ((lst o)[0]?).map fun e => .box (f e).cells := iaddrE_slV sz f o k 0
theorem elems_slV (σ : Sto) : elems σ sz (slV sz f o) = some ((lst o).map f) := by cases o <;> simp [slV, lst, elems]
theorem eqNE_slV (neg : Bool) : eqNE neg (slV sz f o) = some (.bool (o.isNone != neg)) := by cases o <;> cases neg <;> rfl
theorem Tr_slV (k : Nat) : Tr (k + 1) (slV sz f o) = true := by cases o <;> rfl
theorem Nw_slV (k : Nat) : Nw (k + 1) (slV sz f o) = true := by cases o <;> rfl

/-- Part of a slice. -/
def sub (o : Option (List β)) (l h : Nat) : Option (List β) := o.map fun xs => (xs.take h).drop l
theorem lst_sub (l h : Nat) : lst (sub o l h) = ((lst o).take h).drop l := by cases o <;> simp [sub, lst]
theorem sliceE_slV (ρ : Opd → V) (lo hi : Option Opd) : sliceE ρ sz (slV sz f o) lo hi =
    (boundOf ρ hi (lst o).length (lst o).length).bind fun h => (boundOf ρ lo 0 h).bind fun l => if h ≤ (lst o).length ∧ l ≤ h then some (slV sz f (sub o l h)) else none := by
  have hb : ∀ (ρ : Opd → V) (b : Option Opd) (d m h : Nat), d ≤ m → boundOf ρ b d m = some h → h ≤ m := by
    intro ρ b d m h hd hb
    unfold boundOf at hb
    split at hb
    · cases hb; exact hd
    · split at hb
      · split at hb
        · cases hb; omega
        · cases hb
      · cases hb
  cases o with
  | none =>
    simp only [slV, sliceE, lst, Option.getD_none, List.length_nil, sub, Option.map_none]
    cases h1 : boundOf ρ hi 0 0 with
    | none => rfl
    | some h =>
      simp only [Option.bind_some]
      cases h2 : boundOf ρ lo 0 h with
      | none => rfl
      | some l =>
        simp only [Option.bind_some]
        have := hb _ _ _ _ _ (Nat.le_refl _) h1
        have := hb _ _ _ _ _ (Nat.zero_le _) h2
        have a1 : l = 0 := by omega
        have a2 : h = 0 := by omega
        simp [a1, a2]
  | some xs =>
    simp only [slV, sliceE_sl, lst, Option.getD_some, List.length_map, sub, Option.map_some]
    cases h1 : boundOf ρ hi xs.length xs.length with
    | none => rfl
    | some h =>
      simp only [Option.bind_some]
      cases h2 : boundOf ρ lo 0 h with
      | none => rfl
      | some l =>
        simp only [Option.bind_some]
        have b1 := hb _ _ _ _ _ (Nat.le_refl _) h1
        have b2 := hb _ _ _ _ _ (Nat.zero_le _) h2
        simp [b1, b2]
end

theorem bndE_nat (k : IntKind) (m most : Nat) : bndE (.int k (m : Int)) most = if m ≤ most then some m else none := by
  simp [bndE]
theorem appE_row' (sz bytes id len lk : Nat) (xs ys : List V) (σ : Sto) (n : Nat) : appE (some (.row sz xs)) sz bytes id len lk ys σ n =
    if len = xs.length ∧ lk ≤ id ∧ (len + ys.length) * bytes ≤ LIM then some (.ref n 0 (len + ys.length) sz, upd (upd σ id none) n (some (.row sz (xs ++ ys))), n + 1) else none := by
  simp [appE]

/-- A call on trees that hands back no rows of its own. -/
theorem callE_tr {f : Nat} {args : List V} {r : V} (hm : T.mode f ≠ .raw) (hr : res T f args = some r) (ht : args.all (Tr 12) = true) (hn : Nw 12 r = true)
    (fs : Bool) (σ : Sto) (n lk : Nat) : callE T fs f args σ n lk = some (r, σ, n) := by
  rw [callE_eq hm]
  rw [List.all_eq_true] at ht
  rw [mapM_id (fun c hc => (frz_tr σ 12 c (ht c hc)).1), callR_some, hr, retE_some]
  have : args.flatMap (rch σ 12) = [] := List.flatMap_eq_nil_iff.2 fun c hc => (frz_tr σ 12 c (ht c hc)).2
  rw [this, backE_nil, thaw_nw σ n 12 r hn]

theorem all_Tr_nil (k : Nat) : ([] : List V).all (Tr k) = true := rfl
theorem Tr_int (k : Nat) (i : IntKind) (x : Int) : Tr (k + 1) (.int i x) = true := rfl
theorem Tr_bool (k : Nat) (x : Bool) : Tr (k + 1) (.bool x) = true := rfl
theorem Tr_agg (k : Nat) (xs : List V) : Tr (k + 1) (.agg xs) = xs.all (Tr k) := rfl
theorem Tr_fn (k : Nat) (f : Nat) (xs : List V) : Tr (k + 1) (.fn f xs) = xs.all (Tr k) := rfl
theorem Tr_mono : ∀ {k : Nat} {v : V}, Tr k v = true → Tr (k + 1) v = true
  | 0, _, h => by simp [Tr] at h
  | k + 1, v, h => by
    cases v <;> simp only [Tr, List.all_eq_true] at h ⊢ <;> first | exact h | exact fun c hc => Tr_mono (h c hc) | exact Tr_mono h

end Go.Q
