/- ProbeAgrees: in an arena just what is found among the rows that are visible. The package-level table math/bits.deBruijn64tab reads as the program's text lays it. -/
import Derived.Test.YthlgaehihnoohaaGreatDoorSD
import Derived.Test.YthlgaehihnoohaaGreatDoorRows
import Derived.Test.YthlgaehihnoohaaGreatDoorCards
import Derived.Test.YthlgaehihnoohaaGreatDoorTie
import Derived.SevenTiedAt
import Derived.Lib.LaidTab
import Derived.LaidLaws
import Derived.Handed
import Derived.WalkKit
import Derived.ProofKit
import Derived.OpenShut
import Derived.ShutString
import Derived.ChangeOld
import Derived.Below
import Derived.SizedLaws
set_option linter.unusedVariables false
set_option linter.unusedSimpArgs false
set_option linter.unusedSectionVars false
set_option linter.defProp false
namespace Go.Proofs.YthlgaehihnoohaaGreatDoor.probeAgrees
open Go.ChangeShapes Go.WideShapes Go.ChangeAt Go.RowKit
open Go.ChangeMaps (open_string shut_string)
open Go.Q Go.Q.SD
theorem own : ownKnob Tryz.prog.godebug = none := by kernel_rfl
theorem laidOut : laidOutB Tryz.prog = true := by kernel_rfl
def tab : List Int := Lib.deBruijn64tab.map Int.ofNat
theorem laid_eq : Rows.probeAgreesRow.laid = [("math/bits.deBruijn64tab", Lib.tabData .u8 tab)] := by kernel_rfl
theorem cells_laid {W : World} (h : laidMetH Tryz.prog Rows.probeAgreesRow.laid W) : Go.Q.SD.gInv W (fun _ => False) := by
 have h' : laidMet Tryz.prog Rows.probeAgreesRow.laid W := h
 rw [laid_eq] at h'
 have hg : Tryz.prog.globalNamed "math/bits.deBruijn64tab" = some 0 := by kernel_rfl
 have ht := Lib.tabIs_of_head (g := 0) (t := 150) (e := 5) (n := 64) hg (by kernel_rfl) (by kernel_rfl) (by kernel_rfl) (by kernel_rfl) (by kernel_rfl) h'
 refine ⟨fun h => h, ?_, fun j hj => ?_⟩
 ·have h0 := ht.cell hg 0 (by decide)
  cases hh : W.heap[0]? with
  | none => simp [World.cell?, hh] at h0
  | some o =>
    cases o with
    | cells c t f => exact ⟨c, t, f, rfl⟩
    | _ => simp [World.cell?, hh] at h0
 ·have hl : tab.length = Lib.deBruijn64tab.length := by simp [tab]
  have := ht.cell hg j (by rw [hl]; exact hj)
  rw [this]
  simp [tab, List.getD_eq_getElem?_getD, hj]
noncomputable def laidWorld (os : Os) : World :=
 let w0 := World.holding Tryz.prog os ⟨#[], #[], []⟩
 { w0 with heap := w0.heap.modify 0 fun
  | .cells _ t frozen => .cells (tab.map fun z => Value.int .u8 z).toArray t frozen
  | o => o }
theorem laid_met (os : Os) (args : Array Value) : laidMet Tryz.prog Rows.probeAgreesRow.laid ((laidWorld os).forCall (fun _ _ => 0) ⟨#[], args, []⟩).memory :=
 laidMet_of_run' 4 (by kernel_rfl) (by kernel_rfl)
set_option maxRecDepth 100000 in
theorem lifted (os : Os) (started : os.Started) (H : Type) (enc : TypeId × Value → H) :
 ReturnsInHanded {} Tryz.checked os 3 .any (fun w args => (Rows.probeAgreesSpec.pre enc Tryz.prog Tryz.f3 [] false w args ∧ laidMetH Tryz.prog Rows.probeAgreesRow.laid w) ∧ sizedMet enc Tryz.prog Tryz.f3 (OpenSpec.ofChange Rows.probeAgreesSpec) false w args) (Rows.probeAgreesSpec.post enc Tryz.prog Tryz.f3 false true false false) := by
 refine returnsInHanded_of_change_and (C := Tryz.checked) (X := fun w _ => laidMetH Tryz.prog Rows.probeAgreesRow.laid w) (fun _ _ _ hh h => h.of_heap hh) own started (by kernel_rfl) Tryz.func3
  (ChangeSpec.witness_at (enc := enc) (C := Tryz.checked) (os := os) (X := fun w _ => laidMetH Tryz.prog Rows.probeAgreesRow.laid w) false (laidWorld os) #[.agg #[.slice none 0 0], .slice none 0 0, .agg #[.slice none 0 0, .int .i64 0, .int .u64 0, .int .i64 0]] 8 rfl (by kernel_rfl) (by kernel_rfl) (by kernel_rfl) (by kernel_rfl) (by kernel_rfl) (laid_met os _)) ?_
 intro W base args ds gs before hval0 hW hcnd hsz0 hL _
 have hsz : (DataW.weightsEach Tryz.prog (Tryz.f3.params.toList ++ Rows.probeAgreesSpec.plain.varTypes Tryz.prog) (ds ++ gs)).all (· ≤ reachBytes) = true := hsz0
 have hval : ∀ (j : Nat) t v, Tryz.f3.params[j]? = some t → args[j]? = some v → Value.okWide Tryz.prog W .any base t v := hval0
 have hW' := hW
 obtain ⟨p, q, hA0, hV, rfl, hfz, hnd⟩ := hW
 have hA : DataW.TrodAll enc Tryz.prog W 0 (fun _ => true) true Tryz.f3.params.toList args.toList ds p := hA0
 rw [Tryz.params3] at hA hval hsz
 obtain ⟨v0, vs0, d0, ds0, p0, q0, hargs, rfl, rfl, h0, r0⟩ := trodAll_cons hA
 obtain ⟨v1, vs1, d1, ds1, p1, q1, rfl, rfl, rfl, h1, r1⟩ := trodAll_cons r0
 obtain ⟨v2, vs2, d2, ds2, p2, q2, rfl, rfl, rfl, h2, r2⟩ := trodAll_cons r1
 obtain ⟨rfl, rfl, rfl⟩ := trodAll_nil r2
 obtain rfl : args = #[v0, v1, v2] := by cases args; simp_all
 obtain ⟨rfl, rfl⟩ := trodVars_none hV
 have k0 := h0
 have lt0 : ∀ x ∈ p0, x.block < W.heap.size := by obtain ⟨m, hm⟩ := k0; exact DataW.trod_lt m _ _ _ hm
 obtain ⟨us0, rfl, -⟩ := okWide_struct Tryz.underlying24 (hval 0 24 v0 rfl rfl)
 obtain ⟨x0, ok0, rp0⟩ := rep_agg eArena h0 (weights_at hsz (j := 0) (t := 24) rfl rfl) (fun a => ⟨_, rfl⟩)
 have k1 := h1
 have lt1 : ∀ x ∈ p1, x.block < W.heap.size := by obtain ⟨m, hm⟩ := k1; exact DataW.trod_lt m _ _ _ hm
 obtain ⟨a1, len1, cap1, rfl⟩ := okWide_slice Tryz.underlying25 (hval 1 25 v1 rfl rfl)
 obtain ⟨x1, ok1, rp1⟩ := rep_one eVecs h1 (weights_at hsz (j := 1) (t := 25) rfl rfl) rfl (fun o => one_slV _ _ o)
 have ok1 := okVecs ok1
 have k2 := h2
 have lt2 : ∀ x ∈ p2, x.block < W.heap.size := by obtain ⟨m, hm⟩ := k2; exact DataW.trod_lt m _ _ _ hm
 obtain ⟨us2, rfl, -⟩ := okWide_struct Tryz.underlying31 (hval 2 31 v2 rfl rfl)
 obtain ⟨x2, ok2, rp2⟩ := rep_agg ePrb h2 (weights_at hsz (j := 2) (t := 31) rfl rfl) (fun a => ⟨_, rfl⟩)
 clear hA0 hval0 hsz0 hsz
 refine (law_calls mixed tabOf (f := 3) (vs := [eArena.val x0, eVecs.val x1, ePrb.val x2]) rfl (fun i e u he hu => ?_) (res_run (r3 x0 x1 x2.q x2.k x2.t x2.n ok0.1 ok1.1 ok0.2 ok1.2 ok2)) (cells_laid hL)).mono fun e W' ⟨he, bel⟩ => ?_
 ·match i with
  | 0 => simp at he hu; subst he; subst hu; exact rp0
  | 1 => simp at he hu; subst he; subst hu; exact rp1
  | 2 => simp at he hu; subst he; subst hu; exact rp2
  | i + 3 => simp at he
 subst he
 exact ⟨_, rfl, _, _, _, [], _, [], hW', trodAll_mk1 (shut_bool Tryz.underlying4 _), (trodAll_cons_mk (Below.trod laidOut (by kernel_rfl) (of_decide_eq_true (by kernel_rfl)) k0 bel lt0) (trodAll_cons_mk (Below.trod laidOut (by kernel_rfl) (of_decide_eq_true (by kernel_rfl)) k1 bel lt1) (trodAll_cons_mk (Below.trod laidOut (by kernel_rfl) (of_decide_eq_true (by kernel_rfl)) k2 bel lt2) trodAll_mk0))), rfl, bel.frame _, fun h => by cases h⟩
theorem over : Rows.probeAgreesRow.holds Tryz.pinned (OpenSpec.ofChange Rows.probeAgreesSpec) :=
 OpenClaim.holds_of_wide 3 Tryz.f3 rfl rfl rfl rfl rfl rfl rfl ⟨rfl, rfl, rfl, rfl, rfl⟩ rfl rfl rfl rfl rfl (by kernel_rfl) Tryz.func3 (by kernel_rfl)
  (of_decide_eq_true (by kernel_rfl)) (by unfold Func.isWrapper; first | (rw [if_pos (by decide +kernel)]; kernel_rfl) | (rw [if_neg (by decide +kernel)]; exact ⟨rfl, rfl⟩))
  (fun os started H enc _ => lifted os started H enc)
theorem proved : Rows.ProbeAgreesSaid := over
end Go.Proofs.YthlgaehihnoohaaGreatDoor.probeAgrees
namespace Go.Proofs.YthlgaehihnoohaaGreatDoor
theorem probeAgrees_row : Rows.ProbeAgreesSaid := probeAgrees.proved
theorem probeAgreesCard_holds : Rows.ProbeAgreesCardSaid :=
 Claim7.holds_tied_plain_at .later [] [.data] true (true, "813fb3fb3c716855867ca3c275178bd0ad3ed86d3d49ae940ca9393993a7f73f") true
  probeAgrees_row (fun _ h => by cases h) (by kernel_rfl) (fun _ h => by cases h) probeAgrees_row_tie rfl ⟨rfl, rfl⟩ (by kernel_rfl) rfl
  (fun f fn hf hfn => by
   obtain rfl : f = 3 := Option.some.inj ((show Tryz.prog.funcNamed "quiver/quiverlaw14.ProbeAgrees" = some 3 by kernel_rfl).symm.trans hf) |>.symm
   obtain rfl : fn = Tryz.f3 := (Option.some.inj (Tryz.func3.symm.trans hfn)).symm
   exact ⟨by kernel_rfl, fun j t ht => by
    rw [Tryz.params3] at ht
    rcases j with _ | _ | _ | j
    ·obtain rfl : t = 24 := by simpa using ht.symm
     kernel_rfl
    ·obtain rfl : t = 25 := by simpa using ht.symm
     kernel_rfl
    ·obtain rfl : t = 31 := by simpa using ht.symm
     kernel_rfl
    ·simp at ht⟩)
  (by kernel_rfl)
#print axioms probeAgreesCard_holds
end Go.Proofs.YthlgaehihnoohaaGreatDoor
