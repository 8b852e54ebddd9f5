/- The evaluator, run: for calls on closed values. -/
import Derived.Test.YtaigdfomoplchaaQvRun
set_option linter.unusedSimpArgs false
set_option linter.unusedVariables false
namespace Go.Q

section
variable (T : Tab) (rec : Job → Option Out)

def exCall (fs : Bool) (f : Nat) (args : List V) (σ : Sto) (n lk : Nat) : Option (V × Sto × Nat) :=
  match T.mode f with
  | .raw => if fs then match rec (.raw f args σ n lk) with
      | some (.mem v σ' n') => some (v, σ', n')
      | _ => none
    else none
  | _ => match args.mapM (frz σ DEEP) with
    | none => none
    | some ts => match rec (.pure f ts) with
      | some (.val r) =>
        if flat r then some (thaw (dropL σ []) n r)
        else if (fs || (args.flatMap (rch σ DEEP)).isEmpty) && (args.flatMap (rch σ DEEP)).all (fun id => decide (lk ≤ id)) then some (thaw (dropL σ (args.flatMap (rch σ DEEP))) n r) else none
      | _ => none

def exYield (l : Nat) (args : List V) (σ : Sto) (n lk : Nat) : Option (V × Sto × Nat) :=
  match σ l with
  | some (.loop env ps assign body .ready pend) =>
    if args.length = ps.length ∧ lk ≤ l then match rec (.round l (bindPs env ps args) assign body σ n lk) with
      | some (.fin ex σ' n') => match σ' l with
        | some (.loop env2 ps2 a2 b2 .busy _) =>
          some (.bool (ex = .normal), upd σ' l (some (.loop env2 ps2 a2 b2 (if ex = .normal then .ready else .done) (if ex = .normal then none else some ex))), n')
        | _ => none
      | _ => none
    else none
  | _ => none

def exOp (fs : Bool) (ρ : Opd → V) (σ : Sto) (n lk : Nat) (ai : AI) : Option (V × Sto × Nat) :=
  match ai with
  | .call f args => exCall T rec fs f (args.map ρ) σ n lk
  | .callv g args => match ρ g with
    | .fn f caps => exCall T rec fs f (args.map ρ ++ caps) σ n lk
    | .yld l => if fs then exYield rec l (args.map ρ) σ n lk else none
    | _ => none
  | ai => ev ρ σ n lk ai

def exR : List AOp → St → Option St
  | [], s => some s
  | o :: ops, s => if wants o.guard s.env then match exOp T rec true s.val s.σ s.n s.lk o.op with
      | some (v, σ', n') => exR ops ({ s with σ := σ', n := n' }.put o.dst v)
      | none => none
    else exR ops (s.put o.dst .undef)

def exD (n0 : Nat) : List DOp → St → Option St
  | [], s => some s
  | d :: ds, s => if wants d.o.guard s.env then
      match exOp T rec false s.val (if d.pure then Sto.empty else if d.wr then s.σ else hide s.σ n0 (n0 + BIG * d.rank) d.hid) (n0 + BIG * d.rank) (if d.wr && !d.pure then s.lk else n0 + BIG * d.rank) d.o.op with
      | some (v, σ', n') => if n' ≤ n0 + BIG * d.rank + (if d.lays then BIG else 0) then
          exD n0 ds ({ s with σ := (if d.pure then s.σ else if d.wr then σ' else if d.lays then merge s.σ σ' (n0 + BIG * d.rank) else s.σ) }.put d.o.dst v) else none
      | none => none
    else exD n0 ds (s.put d.o.dst .undef)

def exS : List Seg → St → Option St
  | [], s => some s
  | g :: gs, s => match exD T rec s.n g.ds s with
    | some s' => match exR T rec g.ops { s' with n := s.n + BIG * g.lays } with
      | some s2 => exS gs s2
      | none => none
    | none => none

def exLoop (B : St → Option (Ex × St)) : Nat → St → Option (Ex × St)
  | 0, _ => none
  | k + 1, s => match B s with
    | some (.normal, s') => exLoop B k s'
    | r => r

def exC (k : Nat) : AC → St → Option (Ex × St)
  | .skip, s => some (.normal, s)
  | .reg ops, s => (exR T rec ops s).map fun s' => (.normal, s')
  | .regd segs, s => (exS T rec segs s).map fun s' => (.normal, s')
  | .seq a b, s => match exC k a s with
    | some (.normal, s') => exC k b s'
    | r => r
  | .cond x a b, s => match s.val x with
    | .bool true => exC k a s
    | .bool false => exC k b s
    | _ => none
  | .block id c, s => match exC k c s with
    | some (.exit i, s') => if i = id then some (.normal, s') else some (.exit i, s')
    | r => r
  | .loop c, s => exLoop (exC k c) k s
  | .rangeF g ps assign body, s => match s.val g with
    | .fn f caps => if s.lk ≤ s.n then match rec (.raw f (.yld s.n :: caps) (upd s.σ s.n (some (.loop s.env ps assign body .ready none))) (s.n + 1) s.lk) with
        | some (.mem _ σ' n') => match σ' s.n with
          | some (.loop _ _ _ _ .ready pend) | some (.loop _ _ _ _ .done pend) => some (pend.getD .normal, { s with σ := upd σ' s.n none, n := n' })
          | _ => none
        | _ => none
      else none
    | _ => none
  | .exit id, s => some (.exit id, s)
  | .ret, s => some (.ret, s)
end

def exJob (T : Tab) : Nat → Job → Option Out
  | 0, _ => none
  | k + 1, .pure f args => match T.fn f with
    | some fn => if args.length = fn.np ∧ T.mode f ≠ .raw then match exC T (exJob T k) k fn.body ⟨envOf args, Sto.empty, 0, 0⟩ with
        | some (ex, s) => if isEnd ex then (outOf s fn.res).bind fun v =>
            if T.mode f = .own then (if (gids s.σ DEEP v).Nodup then (giv s.σ DEEP v).map .val else none) else (frz s.σ DEEP v).map .val
          else none
        | none => none
      else none
    | none => none
  | k + 1, .raw f args σ n lk => match T.fn f with
    | some fn => if args.length = fn.np then match exC T (exJob T k) k fn.body ⟨envOf args, σ, n, lk⟩ with
        | some (ex, s) => if isEnd ex then (outOf s fn.res).map fun v => .mem v s.σ s.n else none
        | none => none
      else none
    | none => none
  | k + 1, .round l env assign body σ n lk => match exC T (exJob T k) k assign ⟨env, σ, n, lk⟩ with
    | some (.normal, s) => match s.σ l with
      | some (.loop env' ps a b .ready pend) => match exC T (exJob T k) k body { s with σ := upd s.σ l (some (.loop env' ps a b .busy pend)) } with
        | some (ex, s') => match s'.σ l with
          | some (.loop _ _ _ _ .busy _) => some (.fin ex s'.σ s'.n)
          | _ => none
        | none => none
      | _ => none
    | _ => none

end Go.Q
