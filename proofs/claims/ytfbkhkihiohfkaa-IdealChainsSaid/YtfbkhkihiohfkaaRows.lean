/-
  No cell of these rows narrows 'for every input' (looked for: loops, veiled, ifaces, maps, wideKeys, modest, calm, conditions, laid).
  DERIVED. THE GIVEN ROWS OF THIS SEAT. 6 by the template 'for every input the law returns true; each argument reads behind the call as it read before'; 0 by the template 'total and deterministic' (their statements: YtfbkhkihiohfkaaTotals.lean).
  GIVEN WITH THE SEED: the statements are not yours to turn. If you find one false, say at which input.
  Laid BY PROGRAM, IN A SANDBOX (cutbox-rows.mjs): the forced cells as the released guide's own fill.sh prints them over the translation 529376e3d9fdbab4… (all of the seat's roots in one cut). By AI agents, Wed Nov 11 2026. No macro, syntax, notation, axiom, sorry.
-/
import Derived.Test.YtfbkhkihiohfkaaChecked
import GoSem.Claim
import GoSem.ClaimJoined
import GoSem.ClaimMapViews
import Derived.JoinedTies
import Derived.KernelRfl
namespace Go.Proofs.Ytfbkhkihiohfkaa
/- THE CELL 'sum', in the pinned program and in every row, IS THE sha256 OF THE DUMP (.gsa) THAT YtfbkhkihiohfkaaProg.lean LOADS. Nothing in Lean hashes anything: it is a label: what it is worth is what the hold of that sum in a sandbox is worth. -/
noncomputable def Try.pinned : Pinned := { name := "ytfbkhkihiohfkaa", sum := "529376e3d9fdbab4884f6db263942d660152a7aa8e33e053dbea0a234b5de6a8", checked := Try.checked }
namespace Rows
def none {H : Type} : Left H := { results := [], args := [] }

/-- 'quiverlaw18.IdealAdds': WHATEVER THE INPUT: true; the input reads as it did. -/
def idealAddsSpec : ChangeSpec := { name := "idealAdds", fn := fun _ => fun
  | [d1, d2] => { results := [.lit (.bool true)], args := [d1, d2] }
  | _ => none }
def idealAddsRow : OpenClaim := { program := "ytfbkhkihiohfkaa", sum := "529376e3d9fdbab4884f6db263942d660152a7aa8e33e053dbea0a234b5de6a8", func := "quiver/quiverlaw18.IdealAdds", spec := "idealAdds", unfollowed := true, recurses := true, plainKeys := false, apart := false }
def IdealAddsSaid : Prop := idealAddsRow.holds Try.pinned (OpenSpec.ofChange idealAddsSpec)

/-- ITS FALSE NEIGHBOUR: 'it returns false'. Refute it at one input. -/
def idealAddsWrong : ChangeSpec := { name := "idealAdds", fn := fun _ => fun
  | [d1, d2] => { results := [.lit (.bool false)], args := [d1, d2] }
  | _ => none }
def IdealAddsWrongFalsely : Prop := idealAddsRow.holds Try.pinned (OpenSpec.ofChange idealAddsWrong)

/-- 'quiverlaw18.IdealApart': WHATEVER THE INPUT: true; the input reads as it did. -/
def idealApartSpec : ChangeSpec := { name := "idealApart", fn := fun _ => fun
  | [d1, d2, d3] => { results := [.lit (.bool true)], args := [d1, d2, d3] }
  | _ => none }
def idealApartRow : OpenClaim := { program := "ytfbkhkihiohfkaa", sum := "529376e3d9fdbab4884f6db263942d660152a7aa8e33e053dbea0a234b5de6a8", func := "quiver/quiverlaw18.IdealApart", spec := "idealApart", unfollowed := true, recurses := true, plainKeys := false, apart := false }
def IdealApartSaid : Prop := idealApartRow.holds Try.pinned (OpenSpec.ofChange idealApartSpec)

/-- ITS FALSE NEIGHBOUR: 'it returns false'. Refute it at one input. -/
def idealApartWrong : ChangeSpec := { name := "idealApart", fn := fun _ => fun
  | [d1, d2, d3] => { results := [.lit (.bool false)], args := [d1, d2, d3] }
  | _ => none }
def IdealApartWrongFalsely : Prop := idealApartRow.holds Try.pinned (OpenSpec.ofChange idealApartWrong)

/-- 'quiverlaw18.IdealTells': WHATEVER THE INPUT: true; the input reads as it did. -/
def idealTellsSpec : ChangeSpec := { name := "idealTells", fn := fun _ => fun
  | [d1, d2, d3] => { results := [.lit (.bool true)], args := [d1, d2, d3] }
  | _ => none }
def idealTellsRow : OpenClaim := { program := "ytfbkhkihiohfkaa", sum := "529376e3d9fdbab4884f6db263942d660152a7aa8e33e053dbea0a234b5de6a8", func := "quiver/quiverlaw18.IdealTells", spec := "idealTells", unfollowed := true, recurses := true, plainKeys := false, apart := false }
def IdealTellsSaid : Prop := idealTellsRow.holds Try.pinned (OpenSpec.ofChange idealTellsSpec)

/-- ITS FALSE NEIGHBOUR: 'it returns false'. Refute it at one input. -/
def idealTellsWrong : ChangeSpec := { name := "idealTells", fn := fun _ => fun
  | [d1, d2, d3] => { results := [.lit (.bool false)], args := [d1, d2, d3] }
  | _ => none }
def IdealTellsWrongFalsely : Prop := idealTellsRow.holds Try.pinned (OpenSpec.ofChange idealTellsWrong)

/-- 'quiverlaw18.IdealSees': WHATEVER THE INPUT: true; the input reads as it did. -/
def idealSeesSpec : ChangeSpec := { name := "idealSees", fn := fun _ => fun
  | [d1, d2] => { results := [.lit (.bool true)], args := [d1, d2] }
  | _ => none }
def idealSeesRow : OpenClaim := { program := "ytfbkhkihiohfkaa", sum := "529376e3d9fdbab4884f6db263942d660152a7aa8e33e053dbea0a234b5de6a8", func := "quiver/quiverlaw18.IdealSees", spec := "idealSees", unfollowed := true, recurses := true, plainKeys := false, apart := false }
def IdealSeesSaid : Prop := idealSeesRow.holds Try.pinned (OpenSpec.ofChange idealSeesSpec)

/-- ITS FALSE NEIGHBOUR: 'it returns false'. Refute it at one input. -/
def idealSeesWrong : ChangeSpec := { name := "idealSees", fn := fun _ => fun
  | [d1, d2] => { results := [.lit (.bool false)], args := [d1, d2] }
  | _ => none }
def IdealSeesWrongFalsely : Prop := idealSeesRow.holds Try.pinned (OpenSpec.ofChange idealSeesWrong)

/-- 'quiverlaw18.IdealGrows': WHATEVER THE INPUT: true; the input reads as it did. -/
def idealGrowsSpec : ChangeSpec := { name := "idealGrows", fn := fun _ => fun
  | [d1, d2] => { results := [.lit (.bool true)], args := [d1, d2] }
  | _ => none }
def idealGrowsRow : OpenClaim := { program := "ytfbkhkihiohfkaa", sum := "529376e3d9fdbab4884f6db263942d660152a7aa8e33e053dbea0a234b5de6a8", func := "quiver/quiverlaw18.IdealGrows", spec := "idealGrows", unfollowed := true, recurses := true, plainKeys := false, apart := false }
def IdealGrowsSaid : Prop := idealGrowsRow.holds Try.pinned (OpenSpec.ofChange idealGrowsSpec)

/-- ITS FALSE NEIGHBOUR: 'it returns false'. Refute it at one input. -/
def idealGrowsWrong : ChangeSpec := { name := "idealGrows", fn := fun _ => fun
  | [d1, d2] => { results := [.lit (.bool false)], args := [d1, d2] }
  | _ => none }
def IdealGrowsWrongFalsely : Prop := idealGrowsRow.holds Try.pinned (OpenSpec.ofChange idealGrowsWrong)

/-- 'quiverlaw18.IdealChains': WHATEVER THE INPUT: true; the input reads as it did. -/
def idealChainsSpec : ChangeSpec := { name := "idealChains", fn := fun _ => fun
  | [d1, d2, d3] => { results := [.lit (.bool true)], args := [d1, d2, d3] }
  | _ => none }
def idealChainsRow : OpenClaim := { program := "ytfbkhkihiohfkaa", sum := "529376e3d9fdbab4884f6db263942d660152a7aa8e33e053dbea0a234b5de6a8", func := "quiver/quiverlaw18.IdealChains", spec := "idealChains", unfollowed := true, recurses := true, plainKeys := false, apart := false }
def IdealChainsSaid : Prop := idealChainsRow.holds Try.pinned (OpenSpec.ofChange idealChainsSpec)

/-- ITS FALSE NEIGHBOUR: 'it returns false'. Refute it at one input. -/
def idealChainsWrong : ChangeSpec := { name := "idealChains", fn := fun _ => fun
  | [d1, d2, d3] => { results := [.lit (.bool false)], args := [d1, d2, d3] }
  | _ => none }
def IdealChainsWrongFalsely : Prop := idealChainsRow.holds Try.pinned (OpenSpec.ofChange idealChainsWrong)

/- THE SECOND FORM. 'bulk': how many values and letters a reading holds, each counted each time it is reached (what is shared counts as often as it is met; a slice's spare places count too). A statement '..UptoSaid' is the law's where the arguments, and the package variables that the reading takes, are together of bulk at most 1048576: NARROWER than '..Said'. Prove '..Said' where nothing that the law and all that it calls make is longer than what came in: it says more and counts as full. Else prove '..UptoSaid'. A law counts once. -/
mutual
def uptoBulk {H : Type} : DataW H → Nat
  | .lit (.string bytes) => bytes.length + 1
  | .lit _ => 1
  | .nil => 1
  | .ptr d => uptoBulk d + 1
  | .slice elems spare => uptoBulkAll elems + uptoBulkAll spare + 1
  | .agg parts => uptoBulkAll parts + 1
  | .iface _ d => uptoBulk d + 1
  | .map entries => uptoBulkEntries entries + 1
  | .held _ => 1
def uptoBulkAll {H : Type} : List (DataW H) → Nat
  | [] => 0
  | d :: r => uptoBulk d + uptoBulkAll r
def uptoBulkEntries {H : Type} : List (Lit × DataW H) → Nat
  | [] => 0
  | x :: r => uptoBulkEntry x + uptoBulkEntries r
def uptoBulkEntry {H : Type} : Lit × DataW H → Nat
  | (.string bytes, d) => bytes.length + uptoBulk d + 1
  | (_, d) => uptoBulk d + 1
 end
def uptoSmall : (H : Type) → List (DataW H) → Bool := fun _ ds => decide (uptoBulkAll ds ≤ 1048576)
def OpenSpec.upto (s : _root_.Go.ChangeSpec) : _root_.Go.OpenSpec := { _root_.Go.OpenSpec.ofChange s with cond := some uptoSmall }

/-- 'quiverlaw18.IdealAdds', WHERE WHAT IT READS IS OF BULK AT MOST 1048576: true; the input reads as it did. -/
def idealAddsUptoRow : OpenClaim := { program := "ytfbkhkihiohfkaa", sum := "529376e3d9fdbab4884f6db263942d660152a7aa8e33e053dbea0a234b5de6a8", func := "quiver/quiverlaw18.IdealAdds", spec := "idealAdds", unfollowed := true, recurses := true, plainKeys := false, apart := false, narrowed := true }
def IdealAddsUptoSaid : Prop := idealAddsUptoRow.holds Try.pinned (OpenSpec.upto idealAddsSpec)

/-- 'quiverlaw18.IdealApart', WHERE WHAT IT READS IS OF BULK AT MOST 1048576: true; the input reads as it did. -/
def idealApartUptoRow : OpenClaim := { program := "ytfbkhkihiohfkaa", sum := "529376e3d9fdbab4884f6db263942d660152a7aa8e33e053dbea0a234b5de6a8", func := "quiver/quiverlaw18.IdealApart", spec := "idealApart", unfollowed := true, recurses := true, plainKeys := false, apart := false, narrowed := true }
def IdealApartUptoSaid : Prop := idealApartUptoRow.holds Try.pinned (OpenSpec.upto idealApartSpec)

/-- 'quiverlaw18.IdealTells', WHERE WHAT IT READS IS OF BULK AT MOST 1048576: true; the input reads as it did. -/
def idealTellsUptoRow : OpenClaim := { program := "ytfbkhkihiohfkaa", sum := "529376e3d9fdbab4884f6db263942d660152a7aa8e33e053dbea0a234b5de6a8", func := "quiver/quiverlaw18.IdealTells", spec := "idealTells", unfollowed := true, recurses := true, plainKeys := false, apart := false, narrowed := true }
def IdealTellsUptoSaid : Prop := idealTellsUptoRow.holds Try.pinned (OpenSpec.upto idealTellsSpec)

/-- 'quiverlaw18.IdealSees', WHERE WHAT IT READS IS OF BULK AT MOST 1048576: true; the input reads as it did. -/
def idealSeesUptoRow : OpenClaim := { program := "ytfbkhkihiohfkaa", sum := "529376e3d9fdbab4884f6db263942d660152a7aa8e33e053dbea0a234b5de6a8", func := "quiver/quiverlaw18.IdealSees", spec := "idealSees", unfollowed := true, recurses := true, plainKeys := false, apart := false, narrowed := true }
def IdealSeesUptoSaid : Prop := idealSeesUptoRow.holds Try.pinned (OpenSpec.upto idealSeesSpec)

/-- 'quiverlaw18.IdealGrows', WHERE WHAT IT READS IS OF BULK AT MOST 1048576: true; the input reads as it did. -/
def idealGrowsUptoRow : OpenClaim := { program := "ytfbkhkihiohfkaa", sum := "529376e3d9fdbab4884f6db263942d660152a7aa8e33e053dbea0a234b5de6a8", func := "quiver/quiverlaw18.IdealGrows", spec := "idealGrows", unfollowed := true, recurses := true, plainKeys := false, apart := false, narrowed := true }
def IdealGrowsUptoSaid : Prop := idealGrowsUptoRow.holds Try.pinned (OpenSpec.upto idealGrowsSpec)

/-- 'quiverlaw18.IdealChains', WHERE WHAT IT READS IS OF BULK AT MOST 1048576: true; the input reads as it did. -/
def idealChainsUptoRow : OpenClaim := { program := "ytfbkhkihiohfkaa", sum := "529376e3d9fdbab4884f6db263942d660152a7aa8e33e053dbea0a234b5de6a8", func := "quiver/quiverlaw18.IdealChains", spec := "idealChains", unfollowed := true, recurses := true, plainKeys := false, apart := false, narrowed := true }
def IdealChainsUptoSaid : Prop := idealChainsUptoRow.holds Try.pinned (OpenSpec.upto idealChainsSpec)

end Rows
end Go.Proofs.Ytfbkhkihiohfkaa
