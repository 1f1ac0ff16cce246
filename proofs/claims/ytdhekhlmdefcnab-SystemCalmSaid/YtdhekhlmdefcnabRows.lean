/-
  No cell of these rows narrows 'for every input' (looked for: loops, veiled, ifaces, maps, wideKeys, modest, calm, conditions, laid).
  DERIVED. THE GIVEN ROWS OF THIS SEAT. 4 by the template 'for every input the law returns true; each argument reads behind the call as it read before'; 0 by the template 'total and deterministic' (their statements: YtdhekhlmdefcnabTotals.lean).
  GIVEN WITH THE SEED: the statements are not yours to turn. If you find one false, say at which input.
  Laid BY PROGRAM, IN A SANDBOX (cutbox-rows.mjs): the forced cells as the released guide's own fill.sh prints them over the translation 0803a8fac74aa63a… (all of the seat's roots in one cut). By AI agents, Wed Nov 11 2026. No macro, syntax, notation, axiom, sorry.
-/
import Derived.Test.YtdhekhlmdefcnabChecked
import GoSem.Claim
import GoSem.ClaimJoined
import GoSem.ClaimMapViews
import Derived.JoinedTies
import Derived.KernelRfl
namespace Go.Proofs.Ytdhekhlmdefcnab
/- THE CELL 'sum', in the pinned program and in every row, IS THE sha256 OF THE DUMP (.gsa) THAT YtdhekhlmdefcnabProg.lean LOADS. Nothing in Lean hashes anything: it is a label: what it is worth is what the hold of that sum in a sandbox is worth. -/
noncomputable def Try.pinned : Pinned := { name := "ytdhekhlmdefcnab", sum := "0803a8fac74aa63a5958fc2041006c7921cf0b62ec6653bae3e67faccc04d02f", checked := Try.checked }
namespace Rows
def none {H : Type} : Left H := { results := [], args := [] }

/-- 'triumvirkeep.SystemTrue': WHATEVER THE INPUT: true; the input reads as it did. -/
def systemTrueSpec : ChangeSpec := { name := "systemTrue", fn := fun _ => fun
  | [d1, d2, d3, d4, d5, d6] => { results := [.lit (.bool true)], args := [d1, d2, d3, d4, d5, d6] }
  | _ => none }
def systemTrueRow : OpenClaim := { program := "ytdhekhlmdefcnab", sum := "0803a8fac74aa63a5958fc2041006c7921cf0b62ec6653bae3e67faccc04d02f", func := "triumvir/triumvirkeep.SystemTrue", spec := "systemTrue", unfollowed := true, recurses := true, apart := false }
def SystemTrueSaid : Prop := systemTrueRow.holds Try.pinned (OpenSpec.ofChange systemTrueSpec)

/-- ITS FALSE NEIGHBOUR: 'it returns false'. Refute it at one input. -/
def systemTrueWrong : ChangeSpec := { name := "systemTrue", fn := fun _ => fun
  | [d1, d2, d3, d4, d5, d6] => { results := [.lit (.bool false)], args := [d1, d2, d3, d4, d5, d6] }
  | _ => none }
def SystemTrueWrongFalsely : Prop := systemTrueRow.holds Try.pinned (OpenSpec.ofChange systemTrueWrong)

/-- 'triumvirkeep.SystemLatched': WHATEVER THE INPUT: true; the input reads as it did. -/
def systemLatchedSpec : ChangeSpec := { name := "systemLatched", fn := fun _ => fun
  | [d1, d2, d3, d4, d5, d6] => { results := [.lit (.bool true)], args := [d1, d2, d3, d4, d5, d6] }
  | _ => none }
def systemLatchedRow : OpenClaim := { program := "ytdhekhlmdefcnab", sum := "0803a8fac74aa63a5958fc2041006c7921cf0b62ec6653bae3e67faccc04d02f", func := "triumvir/triumvirkeep.SystemLatched", spec := "systemLatched", unfollowed := true, recurses := true, apart := false }
def SystemLatchedSaid : Prop := systemLatchedRow.holds Try.pinned (OpenSpec.ofChange systemLatchedSpec)

/-- ITS FALSE NEIGHBOUR: 'it returns false'. Refute it at one input. -/
def systemLatchedWrong : ChangeSpec := { name := "systemLatched", fn := fun _ => fun
  | [d1, d2, d3, d4, d5, d6] => { results := [.lit (.bool false)], args := [d1, d2, d3, d4, d5, d6] }
  | _ => none }
def SystemLatchedWrongFalsely : Prop := systemLatchedRow.holds Try.pinned (OpenSpec.ofChange systemLatchedWrong)

/-- 'triumvirkeep.SystemRight': WHATEVER THE INPUT: true; the input reads as it did. -/
def systemRightSpec : ChangeSpec := { name := "systemRight", fn := fun _ => fun
  | [d1, d2, d3, d4, d5, d6] => { results := [.lit (.bool true)], args := [d1, d2, d3, d4, d5, d6] }
  | _ => none }
def systemRightRow : OpenClaim := { program := "ytdhekhlmdefcnab", sum := "0803a8fac74aa63a5958fc2041006c7921cf0b62ec6653bae3e67faccc04d02f", func := "triumvir/triumvirkeep.SystemRight", spec := "systemRight", unfollowed := true, recurses := true, apart := false }
def SystemRightSaid : Prop := systemRightRow.holds Try.pinned (OpenSpec.ofChange systemRightSpec)

/-- ITS FALSE NEIGHBOUR: 'it returns false'. Refute it at one input. -/
def systemRightWrong : ChangeSpec := { name := "systemRight", fn := fun _ => fun
  | [d1, d2, d3, d4, d5, d6] => { results := [.lit (.bool false)], args := [d1, d2, d3, d4, d5, d6] }
  | _ => none }
def SystemRightWrongFalsely : Prop := systemRightRow.holds Try.pinned (OpenSpec.ofChange systemRightWrong)

/-- 'triumvirkeep.SystemCalm': WHATEVER THE INPUT: true; the input reads as it did. -/
def systemCalmSpec : ChangeSpec := { name := "systemCalm", fn := fun _ => fun
  | [d1, d2, d3, d4, d5] => { results := [.lit (.bool true)], args := [d1, d2, d3, d4, d5] }
  | _ => none }
def systemCalmRow : OpenClaim := { program := "ytdhekhlmdefcnab", sum := "0803a8fac74aa63a5958fc2041006c7921cf0b62ec6653bae3e67faccc04d02f", func := "triumvir/triumvirkeep.SystemCalm", spec := "systemCalm", unfollowed := true, recurses := true, apart := false }
def SystemCalmSaid : Prop := systemCalmRow.holds Try.pinned (OpenSpec.ofChange systemCalmSpec)

/-- ITS FALSE NEIGHBOUR: 'it returns false'. Refute it at one input. -/
def systemCalmWrong : ChangeSpec := { name := "systemCalm", fn := fun _ => fun
  | [d1, d2, d3, d4, d5] => { results := [.lit (.bool false)], args := [d1, d2, d3, d4, d5] }
  | _ => none }
def SystemCalmWrongFalsely : Prop := systemCalmRow.holds Try.pinned (OpenSpec.ofChange systemCalmWrong)

/- THE SECOND FORM. 'bulk': how many values and letters a reading holds, each counted each time it is reached (what is shared counts as often as it is met; a slice's spare places count too). A statement '..UptoSaid' is the law's where the arguments, and the package variables that the reading takes, are together of bulk at most 1048576: NARROWER than '..Said'. Prove '..Said' where nothing that the law and all that it calls make is longer than what came in: it says more and counts as full. Else prove '..UptoSaid'. A law counts once. -/
mutual
def uptoBulk {H : Type} : DataW H → Nat
  | .lit (.string bytes) => bytes.length + 1
  | .lit _ => 1
  | .nil => 1
  | .ptr d => uptoBulk d + 1
  | .slice elems spare => uptoBulkAll elems + uptoBulkAll spare + 1
  | .agg parts => uptoBulkAll parts + 1
  | .iface _ d => uptoBulk d + 1
  | .map entries => uptoBulkEntries entries + 1
  | .held _ => 1
def uptoBulkAll {H : Type} : List (DataW H) → Nat
  | [] => 0
  | d :: r => uptoBulk d + uptoBulkAll r
def uptoBulkEntries {H : Type} : List (Lit × DataW H) → Nat
  | [] => 0
  | x :: r => uptoBulkEntry x + uptoBulkEntries r
def uptoBulkEntry {H : Type} : Lit × DataW H → Nat
  | (.string bytes, d) => bytes.length + uptoBulk d + 1
  | (_, d) => uptoBulk d + 1
 end
def uptoSmall : (H : Type) → List (DataW H) → Bool := fun _ ds => decide (uptoBulkAll ds ≤ 1048576)
def OpenSpec.upto (s : _root_.Go.ChangeSpec) : _root_.Go.OpenSpec := { _root_.Go.OpenSpec.ofChange s with cond := some uptoSmall }

/-- 'triumvirkeep.SystemTrue', WHERE WHAT IT READS IS OF BULK AT MOST 1048576: true; the input reads as it did. -/
def systemTrueUptoRow : OpenClaim := { program := "ytdhekhlmdefcnab", sum := "0803a8fac74aa63a5958fc2041006c7921cf0b62ec6653bae3e67faccc04d02f", func := "triumvir/triumvirkeep.SystemTrue", spec := "systemTrue", unfollowed := true, recurses := true, apart := false, narrowed := true }
def SystemTrueUptoSaid : Prop := systemTrueUptoRow.holds Try.pinned (OpenSpec.upto systemTrueSpec)

/-- 'triumvirkeep.SystemLatched', WHERE WHAT IT READS IS OF BULK AT MOST 1048576: true; the input reads as it did. -/
def systemLatchedUptoRow : OpenClaim := { program := "ytdhekhlmdefcnab", sum := "0803a8fac74aa63a5958fc2041006c7921cf0b62ec6653bae3e67faccc04d02f", func := "triumvir/triumvirkeep.SystemLatched", spec := "systemLatched", unfollowed := true, recurses := true, apart := false, narrowed := true }
def SystemLatchedUptoSaid : Prop := systemLatchedUptoRow.holds Try.pinned (OpenSpec.upto systemLatchedSpec)

/-- 'triumvirkeep.SystemRight', WHERE WHAT IT READS IS OF BULK AT MOST 1048576: true; the input reads as it did. -/
def systemRightUptoRow : OpenClaim := { program := "ytdhekhlmdefcnab", sum := "0803a8fac74aa63a5958fc2041006c7921cf0b62ec6653bae3e67faccc04d02f", func := "triumvir/triumvirkeep.SystemRight", spec := "systemRight", unfollowed := true, recurses := true, apart := false, narrowed := true }
def SystemRightUptoSaid : Prop := systemRightUptoRow.holds Try.pinned (OpenSpec.upto systemRightSpec)

/-- 'triumvirkeep.SystemCalm', WHERE WHAT IT READS IS OF BULK AT MOST 1048576: true; the input reads as it did. -/
def systemCalmUptoRow : OpenClaim := { program := "ytdhekhlmdefcnab", sum := "0803a8fac74aa63a5958fc2041006c7921cf0b62ec6653bae3e67faccc04d02f", func := "triumvir/triumvirkeep.SystemCalm", spec := "systemCalm", unfollowed := true, recurses := true, apart := false, narrowed := true }
def SystemCalmUptoSaid : Prop := systemCalmUptoRow.holds Try.pinned (OpenSpec.upto systemCalmSpec)

end Rows
end Go.Proofs.Ytdhekhlmdefcnab
