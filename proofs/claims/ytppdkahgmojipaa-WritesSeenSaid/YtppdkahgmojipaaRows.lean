/-
  No cell of these rows narrows 'for every input' (looked for: loops, veiled, ifaces, maps, wideKeys, modest, calm, conditions, laid).
  DERIVED. THE GIVEN ROWS OF THIS SEAT. 5 by the template 'for every input the law returns true; each argument reads behind the call as it read before'; 0 by the template 'total and deterministic' (their statements: YtppdkahgmojipaaTotals.lean).
  GIVEN WITH THE SEED: the statements are not yours to turn. If you find one false, say at which input.
  Laid BY PROGRAM, IN A SANDBOX (cutbox-rows.mjs): the forced cells as the released guide's own fill.sh prints them over the translation dfa05d6c512d6eb3… (all of the seat's roots in one cut). By AI agents, Wed Nov 11 2026. No macro, syntax, notation, axiom, sorry.
-/
import Derived.Test.YtppdkahgmojipaaChecked
import GoSem.Claim
import GoSem.ClaimJoined
import GoSem.ClaimMapViews
import Derived.JoinedTies
import Derived.KernelRfl
namespace Go.Proofs.Ytppdkahgmojipaa
/- THE CELL 'sum', in the pinned program and in every row, IS THE sha256 OF THE DUMP (.gsa) THAT YtppdkahgmojipaaProg.lean LOADS. Nothing in Lean hashes anything: it is a label: what it is worth is what the hold of that sum in a sandbox is worth. -/
noncomputable def Try.pinned : Pinned := { name := "ytppdkahgmojipaa", sum := "dfa05d6c512d6eb39a6b3f5f4743b83752cfd7106159ccadcbd1fce71e1a70d7", checked := Try.checked }
namespace Rows
def none {H : Type} : Left H := { results := [], args := [] }

/-- 'quiverlaw16.WritesDo': WHATEVER THE INPUT: true; the input reads as it did. -/
def writesDoSpec : ChangeSpec := { name := "writesDo", fn := fun _ => fun
  | [d1, d2] => { results := [.lit (.bool true)], args := [d1, d2] }
  | _ => none }
def writesDoRow : OpenClaim := { program := "ytppdkahgmojipaa", sum := "dfa05d6c512d6eb39a6b3f5f4743b83752cfd7106159ccadcbd1fce71e1a70d7", func := "quiver/quiverlaw16.WritesDo", spec := "writesDo", inPlace := ["slices.overlaps[quiver/api.Write]"], unfollowed := true, recurses := true, apart := false }
def WritesDoSaid : Prop := writesDoRow.holds Try.pinned (OpenSpec.ofChange writesDoSpec)

/-- ITS FALSE NEIGHBOUR: 'it returns false'. Refute it at one input. -/
def writesDoWrong : ChangeSpec := { name := "writesDo", fn := fun _ => fun
  | [d1, d2] => { results := [.lit (.bool false)], args := [d1, d2] }
  | _ => none }
def WritesDoWrongFalsely : Prop := writesDoRow.holds Try.pinned (OpenSpec.ofChange writesDoWrong)

/-- 'quiverlaw16.WritesOver': WHATEVER THE INPUT: true; the input reads as it did. -/
def writesOverSpec : ChangeSpec := { name := "writesOver", fn := fun _ => fun
  | [d1, d2, d3] => { results := [.lit (.bool true)], args := [d1, d2, d3] }
  | _ => none }
def writesOverRow : OpenClaim := { program := "ytppdkahgmojipaa", sum := "dfa05d6c512d6eb39a6b3f5f4743b83752cfd7106159ccadcbd1fce71e1a70d7", func := "quiver/quiverlaw16.WritesOver", spec := "writesOver", inPlace := ["slices.overlaps[quiver/api.Write]"], unfollowed := true, recurses := true, apart := false }
def WritesOverSaid : Prop := writesOverRow.holds Try.pinned (OpenSpec.ofChange writesOverSpec)

/-- ITS FALSE NEIGHBOUR: 'it returns false'. Refute it at one input. -/
def writesOverWrong : ChangeSpec := { name := "writesOver", fn := fun _ => fun
  | [d1, d2, d3] => { results := [.lit (.bool false)], args := [d1, d2, d3] }
  | _ => none }
def WritesOverWrongFalsely : Prop := writesOverRow.holds Try.pinned (OpenSpec.ofChange writesOverWrong)

/-- 'quiverlaw16.WritesTwice': WHATEVER THE INPUT: true; the input reads as it did. -/
def writesTwiceSpec : ChangeSpec := { name := "writesTwice", fn := fun _ => fun
  | [d1, d2, d3] => { results := [.lit (.bool true)], args := [d1, d2, d3] }
  | _ => none }
def writesTwiceRow : OpenClaim := { program := "ytppdkahgmojipaa", sum := "dfa05d6c512d6eb39a6b3f5f4743b83752cfd7106159ccadcbd1fce71e1a70d7", func := "quiver/quiverlaw16.WritesTwice", spec := "writesTwice", inPlace := ["slices.overlaps[quiver/api.Write]"], unfollowed := true, recurses := true, apart := false }
def WritesTwiceSaid : Prop := writesTwiceRow.holds Try.pinned (OpenSpec.ofChange writesTwiceSpec)

/-- ITS FALSE NEIGHBOUR: 'it returns false'. Refute it at one input. -/
def writesTwiceWrong : ChangeSpec := { name := "writesTwice", fn := fun _ => fun
  | [d1, d2, d3] => { results := [.lit (.bool false)], args := [d1, d2, d3] }
  | _ => none }
def WritesTwiceWrongFalsely : Prop := writesTwiceRow.holds Try.pinned (OpenSpec.ofChange writesTwiceWrong)

/-- 'quiverlaw16.WritesSeen': WHATEVER THE INPUT: true; the input reads as it did. -/
def writesSeenSpec : ChangeSpec := { name := "writesSeen", fn := fun _ => fun
  | [d1, d2] => { results := [.lit (.bool true)], args := [d1, d2] }
  | _ => none }
def writesSeenRow : OpenClaim := { program := "ytppdkahgmojipaa", sum := "dfa05d6c512d6eb39a6b3f5f4743b83752cfd7106159ccadcbd1fce71e1a70d7", func := "quiver/quiverlaw16.WritesSeen", spec := "writesSeen", inPlace := ["slices.overlaps[quiver/api.Write]"], unfollowed := true, recurses := true, apart := false }
def WritesSeenSaid : Prop := writesSeenRow.holds Try.pinned (OpenSpec.ofChange writesSeenSpec)

/-- ITS FALSE NEIGHBOUR: 'it returns false'. Refute it at one input. -/
def writesSeenWrong : ChangeSpec := { name := "writesSeen", fn := fun _ => fun
  | [d1, d2] => { results := [.lit (.bool false)], args := [d1, d2] }
  | _ => none }
def WritesSeenWrongFalsely : Prop := writesSeenRow.holds Try.pinned (OpenSpec.ofChange writesSeenWrong)

/-- 'quiverlaw16.WritesTell': WHATEVER THE INPUT: true; the input reads as it did. -/
def writesTellSpec : ChangeSpec := { name := "writesTell", fn := fun _ => fun
  | [d1, d2] => { results := [.lit (.bool true)], args := [d1, d2] }
  | _ => none }
def writesTellRow : OpenClaim := { program := "ytppdkahgmojipaa", sum := "dfa05d6c512d6eb39a6b3f5f4743b83752cfd7106159ccadcbd1fce71e1a70d7", func := "quiver/quiverlaw16.WritesTell", spec := "writesTell", inPlace := ["slices.overlaps[quiver/api.Write]"], unfollowed := true, recurses := true, apart := false }
def WritesTellSaid : Prop := writesTellRow.holds Try.pinned (OpenSpec.ofChange writesTellSpec)

/-- ITS FALSE NEIGHBOUR: 'it returns false'. Refute it at one input. -/
def writesTellWrong : ChangeSpec := { name := "writesTell", fn := fun _ => fun
  | [d1, d2] => { results := [.lit (.bool false)], args := [d1, d2] }
  | _ => none }
def WritesTellWrongFalsely : Prop := writesTellRow.holds Try.pinned (OpenSpec.ofChange writesTellWrong)

/- THE SECOND FORM. 'bulk': how many values and letters a reading holds, each counted each time it is reached (what is shared counts as often as it is met; a slice's spare places count too). A statement '..UptoSaid' is the law's where the arguments, and the package variables that the reading takes, are together of bulk at most 1048576: NARROWER than '..Said'. Prove '..Said' where nothing that the law and all that it calls make is longer than what came in: it says more and counts as full. Else prove '..UptoSaid'. A law counts once. -/
mutual
def uptoBulk {H : Type} : DataW H → Nat
  | .lit (.string bytes) => bytes.length + 1
  | .lit _ => 1
  | .nil => 1
  | .ptr d => uptoBulk d + 1
  | .slice elems spare => uptoBulkAll elems + uptoBulkAll spare + 1
  | .agg parts => uptoBulkAll parts + 1
  | .iface _ d => uptoBulk d + 1
  | .map entries => uptoBulkEntries entries + 1
  | .held _ => 1
def uptoBulkAll {H : Type} : List (DataW H) → Nat
  | [] => 0
  | d :: r => uptoBulk d + uptoBulkAll r
def uptoBulkEntries {H : Type} : List (Lit × DataW H) → Nat
  | [] => 0
  | x :: r => uptoBulkEntry x + uptoBulkEntries r
def uptoBulkEntry {H : Type} : Lit × DataW H → Nat
  | (.string bytes, d) => bytes.length + uptoBulk d + 1
  | (_, d) => uptoBulk d + 1
 end
def uptoSmall : (H : Type) → List (DataW H) → Bool := fun _ ds => decide (uptoBulkAll ds ≤ 1048576)
def OpenSpec.upto (s : _root_.Go.ChangeSpec) : _root_.Go.OpenSpec := { _root_.Go.OpenSpec.ofChange s with cond := some uptoSmall }

/-- 'quiverlaw16.WritesDo', WHERE WHAT IT READS IS OF BULK AT MOST 1048576: true; the input reads as it did. -/
def writesDoUptoRow : OpenClaim := { program := "ytppdkahgmojipaa", sum := "dfa05d6c512d6eb39a6b3f5f4743b83752cfd7106159ccadcbd1fce71e1a70d7", func := "quiver/quiverlaw16.WritesDo", spec := "writesDo", inPlace := ["slices.overlaps[quiver/api.Write]"], unfollowed := true, recurses := true, apart := false, narrowed := true }
def WritesDoUptoSaid : Prop := writesDoUptoRow.holds Try.pinned (OpenSpec.upto writesDoSpec)

/-- 'quiverlaw16.WritesOver', WHERE WHAT IT READS IS OF BULK AT MOST 1048576: true; the input reads as it did. -/
def writesOverUptoRow : OpenClaim := { program := "ytppdkahgmojipaa", sum := "dfa05d6c512d6eb39a6b3f5f4743b83752cfd7106159ccadcbd1fce71e1a70d7", func := "quiver/quiverlaw16.WritesOver", spec := "writesOver", inPlace := ["slices.overlaps[quiver/api.Write]"], unfollowed := true, recurses := true, apart := false, narrowed := true }
def WritesOverUptoSaid : Prop := writesOverUptoRow.holds Try.pinned (OpenSpec.upto writesOverSpec)

/-- 'quiverlaw16.WritesTwice', WHERE WHAT IT READS IS OF BULK AT MOST 1048576: true; the input reads as it did. -/
def writesTwiceUptoRow : OpenClaim := { program := "ytppdkahgmojipaa", sum := "dfa05d6c512d6eb39a6b3f5f4743b83752cfd7106159ccadcbd1fce71e1a70d7", func := "quiver/quiverlaw16.WritesTwice", spec := "writesTwice", inPlace := ["slices.overlaps[quiver/api.Write]"], unfollowed := true, recurses := true, apart := false, narrowed := true }
def WritesTwiceUptoSaid : Prop := writesTwiceUptoRow.holds Try.pinned (OpenSpec.upto writesTwiceSpec)

/-- 'quiverlaw16.WritesSeen', WHERE WHAT IT READS IS OF BULK AT MOST 1048576: true; the input reads as it did. -/
def writesSeenUptoRow : OpenClaim := { program := "ytppdkahgmojipaa", sum := "dfa05d6c512d6eb39a6b3f5f4743b83752cfd7106159ccadcbd1fce71e1a70d7", func := "quiver/quiverlaw16.WritesSeen", spec := "writesSeen", inPlace := ["slices.overlaps[quiver/api.Write]"], unfollowed := true, recurses := true, apart := false, narrowed := true }
def WritesSeenUptoSaid : Prop := writesSeenUptoRow.holds Try.pinned (OpenSpec.upto writesSeenSpec)

/-- 'quiverlaw16.WritesTell', WHERE WHAT IT READS IS OF BULK AT MOST 1048576: true; the input reads as it did. -/
def writesTellUptoRow : OpenClaim := { program := "ytppdkahgmojipaa", sum := "dfa05d6c512d6eb39a6b3f5f4743b83752cfd7106159ccadcbd1fce71e1a70d7", func := "quiver/quiverlaw16.WritesTell", spec := "writesTell", inPlace := ["slices.overlaps[quiver/api.Write]"], unfollowed := true, recurses := true, apart := false, narrowed := true }
def WritesTellUptoSaid : Prop := writesTellUptoRow.holds Try.pinned (OpenSpec.upto writesTellSpec)

end Rows
end Go.Proofs.Ytppdkahgmojipaa
