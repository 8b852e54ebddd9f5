/- The arguments of seat 08's statements, as trees. -/
import Derived.Test.YtaigdfomoplchaaQvRow
import Derived.Test.YtaigdfomoplchaaS08A
import Derived.Test.YtaigdfomoplchaaS08B
import Derived.Test.YtaigdfomoplchaaProg
import Derived.KernelRfl
set_option linter.unusedSimpArgs false
set_option linter.unusedVariables false
namespace Go.Q.S08
open Go.Q Go.Proofs

def eU64 : Enc Try.prog 29 Int := Enc.int .u64 Try.underlying29
def eI32 : Enc Try.prog 21 Int := Enc.int .i32 Try.underlying21
def eVec : Enc Try.prog 32 (Option (List Int)) := Enc.slice eI32 Try.underlying32 1 (by kernel_rfl) (by decide) 4 (by kernel_rfl)
def eU64s : Enc Try.prog 23 (Option (List Int)) := Enc.slice eU64 Try.underlying23 1 (by kernel_rfl) (by decide) 8 (by kernel_rfl)

def WfU (x : Int) : Prop := 0 ≤ x ∧ x < 18446744073709551616
def WfI32 (x : Int) : Prop := -2147483648 ≤ x ∧ x < 2147483648
def OkVec (o : Option (List Int)) : Prop := (lst o).length ≤ maxLen ∧ (lst o).length * 4 ≤ reachBytes ∧ ∀ b ∈ lst o, WfI32 b
def OkVer (x : Ver) : Prop := WfU x.b ∧ WfU x.e ∧ OkVec x.v

theorem wf_u64 {x : Int} (h : (Lit.int .u64 x).wf = true) : WfU x := by
  simp [Lit.wf, IntKind.min, IntKind.max, IntKind.signed, IntKind.bits] at h
  unfold WfU; omega
theorem wf_i32 {x : Int} (h : (Lit.int .i32 x).wf = true) : WfI32 x := by
  simp [Lit.wf, IntKind.min, IntKind.max, IntKind.signed, IntKind.bits] at h
  unfold WfI32; omega

theorem okVec {o : Option (List Int)} (h : eVec.ok o) : OkVec o := by
  cases o with
  | none => exact ⟨by simp [lst], by simp [lst], by simp [lst]⟩
  | some l =>
    obtain ⟨h1, h2, h3⟩ := h l rfl
    exact ⟨h1, h2, fun b hb => wf_i32 (h3 b hb)⟩

def eVer : Enc Try.prog 34 Ver := Enc.map
  (Enc.struct (EncF.cons (off := 0) (sz := 1) eU64 rfl (by kernel_rfl) (EncF.cons (sz := 1) eU64 rfl (by kernel_rfl) (EncF.cons (sz := 1) eVec rfl (by kernel_rfl) EncF.nil))) Try.underlying34 (by kernel_rfl))
  (fun x => ⟨x.1, x.2.1, x.2.2.1⟩) verV OkVer
  (fun a => by
    obtain ⟨b, e, v, u⟩ := a
    cases v <;> rfl)
  (fun a h => ⟨wf_u64 h.1, wf_u64 h.2.1, okVec h.2.2.1⟩)
def eChain : Enc Try.prog 22 (Option (List Ver)) := Enc.slice eVer Try.underlying22 3 (by kernel_rfl) (by decide) 40 (by kernel_rfl)

def OkChain (o : Option (List Ver)) : Prop := (lst o).length ≤ maxLen ∧ (lst o).length * 40 ≤ reachBytes ∧ ∀ b ∈ lst o, OkVer b
def OkU64s (o : Option (List Int)) : Prop := (lst o).length ≤ maxLen ∧ (lst o).length * 8 ≤ reachBytes ∧ ∀ b ∈ lst o, WfU b

theorem okChain {o : Option (List Ver)} (h : eChain.ok o) : OkChain o := by
  cases o with
  | none => exact ⟨by simp [lst], by simp [lst], by simp [lst]⟩
  | some l => exact h l rfl
theorem okU64s {o : Option (List Int)} (h : eU64s.ok o) : OkU64s o := by
  cases o with
  | none => exact ⟨by simp [lst], by simp [lst], by simp [lst]⟩
  | some l =>
    obtain ⟨h1, h2, h3⟩ := h l rfl
    exact ⟨h1, h2, fun b hb => wf_u64 (h3 b hb)⟩
theorem smChain {o : Option (List Ver)} (h : OkChain o) : Sm o := by
  refine ⟨by have := h.1; unfold maxLen at this; omega, fun x hx => ?_⟩
  have := (h.2.2 x hx).2.2.1
  unfold maxLen at this; omega

def eChains : Enc Try.prog 50 (Option (List (Option (List Ver)))) := Enc.slice eChain Try.underlying50 1 (by kernel_rfl) (by decide) 24 (by kernel_rfl)
theorem okChains {o : Option (List (Option (List Ver)))} (h : eChains.ok o) : (lst o).length < 9223372036854775808 ∧ ∀ x ∈ lst o, OkChain x := by
  cases o with
  | none => exact ⟨by simp [lst], by simp [lst]⟩
  | some l =>
    obtain ⟨h1, h2, h3⟩ := h l rfl
    exact ⟨by rw [lst_some]; unfold maxLen at h1; omega, fun b hb => okChain (h3 b hb)⟩
theorem smU64s {o : Option (List Int)} (h : OkU64s o) : (lst o).length < 9223372036854775808 := by
  have := h.1; unfold maxLen at this; omega

end Go.Q.S08
