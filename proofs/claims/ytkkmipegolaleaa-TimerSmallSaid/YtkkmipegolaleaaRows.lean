/-
  No cell of these rows narrows 'for every input' (looked for: loops, veiled, ifaces, maps, wideKeys, modest, calm, conditions, laid).
  DERIVED. THE GIVEN ROWS OF THIS SEAT. 6 by the template 'for every input the law returns true; each argument reads behind the call as it read before'; 0 by the template 'total and deterministic' (their statements: YtkkmipegolaleaaTotals.lean).
  GIVEN WITH THE SEED: the statements are not yours to turn. If you find one false, say at which input.
  Laid BY PROGRAM, IN A SANDBOX (cutbox-rows.mjs): the forced cells as the released guide's own fill.sh prints them over the translation acda21ac6b6d5eef… (all of the seat's roots in one cut). By AI agents, Wed Nov 11 2026. No macro, syntax, notation, axiom, sorry.
-/
import Derived.Test.YtkkmipegolaleaaChecked
import GoSem.Claim
import GoSem.ClaimJoined
import GoSem.ClaimMapViews
import Derived.JoinedTies
import Derived.KernelRfl
namespace Go.Proofs.Ytkkmipegolaleaa
/- THE CELL 'sum', in the pinned program and in every row, IS THE sha256 OF THE DUMP (.gsa) THAT YtkkmipegolaleaaProg.lean LOADS. Nothing in Lean hashes anything: it is a label: what it is worth is what the hold of that sum in a sandbox is worth. -/
noncomputable def Try.pinned : Pinned := { name := "ytkkmipegolaleaa", sum := "acda21ac6b6d5eef1be1e3598a7566e0a18f300084568ee2b8f73ec3ecaf5542", checked := Try.checked }
namespace Rows
def none {H : Type} : Left H := { results := [], args := [] }

/-- 'reparteelaw34.TimerTells': WHATEVER THE INPUT: true; the input reads as it did. -/
def timerTellsSpec : ChangeSpec := { name := "timerTells", fn := fun _ => fun
  | [d1, d2, d3] => { results := [.lit (.bool true)], args := [d1, d2, d3] }
  | _ => none }
def timerTellsRow : OpenClaim := { program := "ytkkmipegolaleaa", sum := "acda21ac6b6d5eef1be1e3598a7566e0a18f300084568ee2b8f73ec3ecaf5542", func := "repartee/reparteelaw34.TimerTells", spec := "timerTells", unfollowed := true, recurses := true, apart := false }
def TimerTellsSaid : Prop := timerTellsRow.holds Try.pinned (OpenSpec.ofChange timerTellsSpec)

/-- ITS FALSE NEIGHBOUR: 'it returns false'. Refute it at one input. -/
def timerTellsWrong : ChangeSpec := { name := "timerTells", fn := fun _ => fun
  | [d1, d2, d3] => { results := [.lit (.bool false)], args := [d1, d2, d3] }
  | _ => none }
def TimerTellsWrongFalsely : Prop := timerTellsRow.holds Try.pinned (OpenSpec.ofChange timerTellsWrong)

/-- 'reparteelaw34.TimerLeast': WHATEVER THE INPUT: true; the input reads as it did. -/
def timerLeastSpec : ChangeSpec := { name := "timerLeast", fn := fun _ => fun
  | [d1, d2] => { results := [.lit (.bool true)], args := [d1, d2] }
  | _ => none }
def timerLeastRow : OpenClaim := { program := "ytkkmipegolaleaa", sum := "acda21ac6b6d5eef1be1e3598a7566e0a18f300084568ee2b8f73ec3ecaf5542", func := "repartee/reparteelaw34.TimerLeast", spec := "timerLeast", unfollowed := true, recurses := true, apart := false }
def TimerLeastSaid : Prop := timerLeastRow.holds Try.pinned (OpenSpec.ofChange timerLeastSpec)

/-- ITS FALSE NEIGHBOUR: 'it returns false'. Refute it at one input. -/
def timerLeastWrong : ChangeSpec := { name := "timerLeast", fn := fun _ => fun
  | [d1, d2] => { results := [.lit (.bool false)], args := [d1, d2] }
  | _ => none }
def TimerLeastWrongFalsely : Prop := timerLeastRow.holds Try.pinned (OpenSpec.ofChange timerLeastWrong)

/-- 'reparteelaw34.TimerParts': WHATEVER THE INPUT: true; the input reads as it did. -/
def timerPartsSpec : ChangeSpec := { name := "timerParts", fn := fun _ => fun
  | [d1, d2, d3] => { results := [.lit (.bool true)], args := [d1, d2, d3] }
  | _ => none }
def timerPartsRow : OpenClaim := { program := "ytkkmipegolaleaa", sum := "acda21ac6b6d5eef1be1e3598a7566e0a18f300084568ee2b8f73ec3ecaf5542", func := "repartee/reparteelaw34.TimerParts", spec := "timerParts", unfollowed := true, recurses := true, apart := false }
def TimerPartsSaid : Prop := timerPartsRow.holds Try.pinned (OpenSpec.ofChange timerPartsSpec)

/-- ITS FALSE NEIGHBOUR: 'it returns false'. Refute it at one input. -/
def timerPartsWrong : ChangeSpec := { name := "timerParts", fn := fun _ => fun
  | [d1, d2, d3] => { results := [.lit (.bool false)], args := [d1, d2, d3] }
  | _ => none }
def TimerPartsWrongFalsely : Prop := timerPartsRow.holds Try.pinned (OpenSpec.ofChange timerPartsWrong)

/-- 'reparteelaw34.TimerRounds': WHATEVER THE INPUT: true; the input reads as it did. -/
def timerRoundsSpec : ChangeSpec := { name := "timerRounds", fn := fun _ => fun
  | [d1, d2] => { results := [.lit (.bool true)], args := [d1, d2] }
  | _ => none }
def timerRoundsRow : OpenClaim := { program := "ytkkmipegolaleaa", sum := "acda21ac6b6d5eef1be1e3598a7566e0a18f300084568ee2b8f73ec3ecaf5542", func := "repartee/reparteelaw34.TimerRounds", spec := "timerRounds", unfollowed := true, recurses := true, apart := false }
def TimerRoundsSaid : Prop := timerRoundsRow.holds Try.pinned (OpenSpec.ofChange timerRoundsSpec)

/-- ITS FALSE NEIGHBOUR: 'it returns false'. Refute it at one input. -/
def timerRoundsWrong : ChangeSpec := { name := "timerRounds", fn := fun _ => fun
  | [d1, d2] => { results := [.lit (.bool false)], args := [d1, d2] }
  | _ => none }
def TimerRoundsWrongFalsely : Prop := timerRoundsRow.holds Try.pinned (OpenSpec.ofChange timerRoundsWrong)

/-- 'reparteelaw34.TimerSmall': WHATEVER THE INPUT: true; the input reads as it did. -/
def timerSmallSpec : ChangeSpec := { name := "timerSmall", fn := fun _ => fun
  | [] => { results := [.lit (.bool true)], args := [] }
  | _ => none }
def timerSmallRow : OpenClaim := { program := "ytkkmipegolaleaa", sum := "acda21ac6b6d5eef1be1e3598a7566e0a18f300084568ee2b8f73ec3ecaf5542", func := "repartee/reparteelaw34.TimerSmall", spec := "timerSmall", unfollowed := true, recurses := true, apart := false }
def TimerSmallSaid : Prop := timerSmallRow.holds Try.pinned (OpenSpec.ofChange timerSmallSpec)

/-- ITS FALSE NEIGHBOUR: 'it returns false'. Refute it at one input. -/
def timerSmallWrong : ChangeSpec := { name := "timerSmall", fn := fun _ => fun
  | [] => { results := [.lit (.bool false)], args := [] }
  | _ => none }
def TimerSmallWrongFalsely : Prop := timerSmallRow.holds Try.pinned (OpenSpec.ofChange timerSmallWrong)

/-- 'reparteelaw34.TimerMore': WHATEVER THE INPUT: true; the input reads as it did. -/
def timerMoreSpec : ChangeSpec := { name := "timerMore", fn := fun _ => fun
  | [d1, d2, d3] => { results := [.lit (.bool true)], args := [d1, d2, d3] }
  | _ => none }
def timerMoreRow : OpenClaim := { program := "ytkkmipegolaleaa", sum := "acda21ac6b6d5eef1be1e3598a7566e0a18f300084568ee2b8f73ec3ecaf5542", func := "repartee/reparteelaw34.TimerMore", spec := "timerMore", inPlace := ["slices.overlaps[int]"], unfollowed := true, recurses := true, apart := false }
def TimerMoreSaid : Prop := timerMoreRow.holds Try.pinned (OpenSpec.ofChange timerMoreSpec)

/-- ITS FALSE NEIGHBOUR: 'it returns false'. Refute it at one input. -/
def timerMoreWrong : ChangeSpec := { name := "timerMore", fn := fun _ => fun
  | [d1, d2, d3] => { results := [.lit (.bool false)], args := [d1, d2, d3] }
  | _ => none }
def TimerMoreWrongFalsely : Prop := timerMoreRow.holds Try.pinned (OpenSpec.ofChange timerMoreWrong)

/- THE SECOND FORM. 'bulk': how many values and letters a reading holds, each counted each time it is reached (what is shared counts as often as it is met; a slice's spare places count too). A statement '..UptoSaid' is the law's where the arguments, and the package variables that the reading takes, are together of bulk at most 1048576: NARROWER than '..Said'. Prove '..Said' where nothing that the law and all that it calls make is longer than what came in: it says more and counts as full. Else prove '..UptoSaid'. A law counts once. -/
mutual
def uptoBulk {H : Type} : DataW H → Nat
  | .lit (.string bytes) => bytes.length + 1
  | .lit _ => 1
  | .nil => 1
  | .ptr d => uptoBulk d + 1
  | .slice elems spare => uptoBulkAll elems + uptoBulkAll spare + 1
  | .agg parts => uptoBulkAll parts + 1
  | .iface _ d => uptoBulk d + 1
  | .map entries => uptoBulkEntries entries + 1
  | .held _ => 1
def uptoBulkAll {H : Type} : List (DataW H) → Nat
  | [] => 0
  | d :: r => uptoBulk d + uptoBulkAll r
def uptoBulkEntries {H : Type} : List (Lit × DataW H) → Nat
  | [] => 0
  | x :: r => uptoBulkEntry x + uptoBulkEntries r
def uptoBulkEntry {H : Type} : Lit × DataW H → Nat
  | (.string bytes, d) => bytes.length + uptoBulk d + 1
  | (_, d) => uptoBulk d + 1
 end
def uptoSmall : (H : Type) → List (DataW H) → Bool := fun _ ds => decide (uptoBulkAll ds ≤ 1048576)
def OpenSpec.upto (s : _root_.Go.ChangeSpec) : _root_.Go.OpenSpec := { _root_.Go.OpenSpec.ofChange s with cond := some uptoSmall }

/-- 'reparteelaw34.TimerTells', WHERE WHAT IT READS IS OF BULK AT MOST 1048576: true; the input reads as it did. -/
def timerTellsUptoRow : OpenClaim := { program := "ytkkmipegolaleaa", sum := "acda21ac6b6d5eef1be1e3598a7566e0a18f300084568ee2b8f73ec3ecaf5542", func := "repartee/reparteelaw34.TimerTells", spec := "timerTells", unfollowed := true, recurses := true, apart := false, narrowed := true }
def TimerTellsUptoSaid : Prop := timerTellsUptoRow.holds Try.pinned (OpenSpec.upto timerTellsSpec)

/-- 'reparteelaw34.TimerLeast', WHERE WHAT IT READS IS OF BULK AT MOST 1048576: true; the input reads as it did. -/
def timerLeastUptoRow : OpenClaim := { program := "ytkkmipegolaleaa", sum := "acda21ac6b6d5eef1be1e3598a7566e0a18f300084568ee2b8f73ec3ecaf5542", func := "repartee/reparteelaw34.TimerLeast", spec := "timerLeast", unfollowed := true, recurses := true, apart := false, narrowed := true }
def TimerLeastUptoSaid : Prop := timerLeastUptoRow.holds Try.pinned (OpenSpec.upto timerLeastSpec)

/-- 'reparteelaw34.TimerParts', WHERE WHAT IT READS IS OF BULK AT MOST 1048576: true; the input reads as it did. -/
def timerPartsUptoRow : OpenClaim := { program := "ytkkmipegolaleaa", sum := "acda21ac6b6d5eef1be1e3598a7566e0a18f300084568ee2b8f73ec3ecaf5542", func := "repartee/reparteelaw34.TimerParts", spec := "timerParts", unfollowed := true, recurses := true, apart := false, narrowed := true }
def TimerPartsUptoSaid : Prop := timerPartsUptoRow.holds Try.pinned (OpenSpec.upto timerPartsSpec)

/-- 'reparteelaw34.TimerRounds', WHERE WHAT IT READS IS OF BULK AT MOST 1048576: true; the input reads as it did. -/
def timerRoundsUptoRow : OpenClaim := { program := "ytkkmipegolaleaa", sum := "acda21ac6b6d5eef1be1e3598a7566e0a18f300084568ee2b8f73ec3ecaf5542", func := "repartee/reparteelaw34.TimerRounds", spec := "timerRounds", unfollowed := true, recurses := true, apart := false, narrowed := true }
def TimerRoundsUptoSaid : Prop := timerRoundsUptoRow.holds Try.pinned (OpenSpec.upto timerRoundsSpec)

/-- 'reparteelaw34.TimerSmall', WHERE WHAT IT READS IS OF BULK AT MOST 1048576: true; the input reads as it did. -/
def timerSmallUptoRow : OpenClaim := { program := "ytkkmipegolaleaa", sum := "acda21ac6b6d5eef1be1e3598a7566e0a18f300084568ee2b8f73ec3ecaf5542", func := "repartee/reparteelaw34.TimerSmall", spec := "timerSmall", unfollowed := true, recurses := true, apart := false, narrowed := true }
def TimerSmallUptoSaid : Prop := timerSmallUptoRow.holds Try.pinned (OpenSpec.upto timerSmallSpec)

/-- 'reparteelaw34.TimerMore', WHERE WHAT IT READS IS OF BULK AT MOST 1048576: true; the input reads as it did. -/
def timerMoreUptoRow : OpenClaim := { program := "ytkkmipegolaleaa", sum := "acda21ac6b6d5eef1be1e3598a7566e0a18f300084568ee2b8f73ec3ecaf5542", func := "repartee/reparteelaw34.TimerMore", spec := "timerMore", inPlace := ["slices.overlaps[int]"], unfollowed := true, recurses := true, apart := false, narrowed := true }
def TimerMoreUptoSaid : Prop := timerMoreUptoRow.holds Try.pinned (OpenSpec.upto timerMoreSpec)

end Rows
end Go.Proofs.Ytkkmipegolaleaa
