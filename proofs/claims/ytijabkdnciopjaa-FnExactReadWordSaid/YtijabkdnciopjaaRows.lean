/-
  No cell of these rows narrows 'for every input' (looked for: loops, veiled, ifaces, maps, wideKeys, modest, calm, conditions, laid).
  DERIVED. THE GIVEN ROWS OF THIS SEAT. 12 by the template 'for every input the law returns true; each argument reads behind the call as it read before'; 0 by the template 'total and deterministic' (their statements: YtijabkdnciopjaaTotals.lean).
  GIVEN WITH THE SEED: the statements are not yours to turn. If you find one false, say at which input.
  Laid BY PROGRAM, IN A SANDBOX (cutbox-rows.mjs): the forced cells as the released guide's own fill.sh prints them over the translation 01da4b867b9a8b9e… (all of the seat's roots in one cut). By AI agents, Wed Nov 11 2026. No macro, syntax, notation, axiom, sorry.
-/
import Derived.Test.YtijabkdnciopjaaChecked
import GoSem.Claim
import GoSem.ClaimJoined
import GoSem.ClaimMapViews
import Derived.JoinedTies
import Derived.KernelRfl
namespace Go.Proofs.Ytijabkdnciopjaa
/- THE CELL 'sum', in the pinned program and in every row, IS THE sha256 OF THE DUMP (.gsa) THAT YtijabkdnciopjaaProg.lean LOADS. Nothing in Lean hashes anything: it is a label: what it is worth is what the hold of that sum in a sandbox is worth. -/
noncomputable def Try.pinned : Pinned := { name := "ytijabkdnciopjaa", sum := "01da4b867b9a8b9e74892142657923b77064ce7bd350e13a9bdbd303121c1f90", checked := Try.checked }
namespace Rows
def none {H : Type} : Left H := { results := [], args := [] }

/-- 'laws.FnExactConstants': WHATEVER THE INPUT: true; the input reads as it did. -/
def fnExactConstantsSpec : ChangeSpec := { name := "fnExactConstants", fn := fun _ => fun
  | [] => { results := [.lit (.bool true)], args := [] }
  | _ => none }
def fnExactConstantsRow : OpenClaim := { program := "ytijabkdnciopjaa", sum := "01da4b867b9a8b9e74892142657923b77064ce7bd350e13a9bdbd303121c1f90", func := "loop.example/bitwords/laws.FnExactConstants", spec := "fnExactConstants", apart := false }
def FnExactConstantsSaid : Prop := fnExactConstantsRow.holds Try.pinned (OpenSpec.ofChange fnExactConstantsSpec)

/-- ITS FALSE NEIGHBOUR: 'it returns false'. Refute it at one input. -/
def fnExactConstantsWrong : ChangeSpec := { name := "fnExactConstants", fn := fun _ => fun
  | [] => { results := [.lit (.bool false)], args := [] }
  | _ => none }
def FnExactConstantsWrongFalsely : Prop := fnExactConstantsRow.holds Try.pinned (OpenSpec.ofChange fnExactConstantsWrong)

/-- 'laws.FnExactWordValid': WHATEVER THE INPUT: true; the input reads as it did. -/
def fnExactWordValidSpec : ChangeSpec := { name := "fnExactWordValid", fn := fun _ => fun
  | [d1, d2] => { results := [.lit (.bool true)], args := [d1, d2] }
  | _ => none }
def fnExactWordValidRow : OpenClaim := { program := "ytijabkdnciopjaa", sum := "01da4b867b9a8b9e74892142657923b77064ce7bd350e13a9bdbd303121c1f90", func := "loop.example/bitwords/laws.FnExactWordValid", spec := "fnExactWordValid", apart := false }
def FnExactWordValidSaid : Prop := fnExactWordValidRow.holds Try.pinned (OpenSpec.ofChange fnExactWordValidSpec)

/-- ITS FALSE NEIGHBOUR: 'it returns false'. Refute it at one input. -/
def fnExactWordValidWrong : ChangeSpec := { name := "fnExactWordValid", fn := fun _ => fun
  | [d1, d2] => { results := [.lit (.bool false)], args := [d1, d2] }
  | _ => none }
def FnExactWordValidWrongFalsely : Prop := fnExactWordValidRow.holds Try.pinned (OpenSpec.ofChange fnExactWordValidWrong)

/-- 'laws.FnExactCarryJoin': WHATEVER THE INPUT: true; the input reads as it did. -/
def fnExactCarryJoinSpec : ChangeSpec := { name := "fnExactCarryJoin", fn := fun _ => fun
  | [d1, d2] => { results := [.lit (.bool true)], args := [d1, d2] }
  | _ => none }
def fnExactCarryJoinRow : OpenClaim := { program := "ytijabkdnciopjaa", sum := "01da4b867b9a8b9e74892142657923b77064ce7bd350e13a9bdbd303121c1f90", func := "loop.example/bitwords/laws.FnExactCarryJoin", spec := "fnExactCarryJoin", apart := false }
def FnExactCarryJoinSaid : Prop := fnExactCarryJoinRow.holds Try.pinned (OpenSpec.ofChange fnExactCarryJoinSpec)

/-- ITS FALSE NEIGHBOUR: 'it returns false'. Refute it at one input. -/
def fnExactCarryJoinWrong : ChangeSpec := { name := "fnExactCarryJoin", fn := fun _ => fun
  | [d1, d2] => { results := [.lit (.bool false)], args := [d1, d2] }
  | _ => none }
def FnExactCarryJoinWrongFalsely : Prop := fnExactCarryJoinRow.holds Try.pinned (OpenSpec.ofChange fnExactCarryJoinWrong)

/-- 'laws.FnExactWordOf': WHATEVER THE INPUT: true; the input reads as it did. -/
def fnExactWordOfSpec : ChangeSpec := { name := "fnExactWordOf", fn := fun _ => fun
  | [d1, d2] => { results := [.lit (.bool true)], args := [d1, d2] }
  | _ => none }
def fnExactWordOfRow : OpenClaim := { program := "ytijabkdnciopjaa", sum := "01da4b867b9a8b9e74892142657923b77064ce7bd350e13a9bdbd303121c1f90", func := "loop.example/bitwords/laws.FnExactWordOf", spec := "fnExactWordOf", apart := false }
def FnExactWordOfSaid : Prop := fnExactWordOfRow.holds Try.pinned (OpenSpec.ofChange fnExactWordOfSpec)

/-- ITS FALSE NEIGHBOUR: 'it returns false'. Refute it at one input. -/
def fnExactWordOfWrong : ChangeSpec := { name := "fnExactWordOf", fn := fun _ => fun
  | [d1, d2] => { results := [.lit (.bool false)], args := [d1, d2] }
  | _ => none }
def FnExactWordOfWrongFalsely : Prop := fnExactWordOfRow.holds Try.pinned (OpenSpec.ofChange fnExactWordOfWrong)

/-- 'laws.FnExactReadWord': WHATEVER THE INPUT: true; the input reads as it did. -/
def fnExactReadWordSpec : ChangeSpec := { name := "fnExactReadWord", fn := fun _ => fun
  | [d] => { results := [.lit (.bool true)], args := [d] }
  | _ => none }
def fnExactReadWordRow : OpenClaim := { program := "ytijabkdnciopjaa", sum := "01da4b867b9a8b9e74892142657923b77064ce7bd350e13a9bdbd303121c1f90", func := "loop.example/bitwords/laws.FnExactReadWord", spec := "fnExactReadWord", apart := false }
def FnExactReadWordSaid : Prop := fnExactReadWordRow.holds Try.pinned (OpenSpec.ofChange fnExactReadWordSpec)

/-- ITS FALSE NEIGHBOUR: 'it returns false'. Refute it at one input. -/
def fnExactReadWordWrong : ChangeSpec := { name := "fnExactReadWord", fn := fun _ => fun
  | [d] => { results := [.lit (.bool false)], args := [d] }
  | _ => none }
def FnExactReadWordWrongFalsely : Prop := fnExactReadWordRow.holds Try.pinned (OpenSpec.ofChange fnExactReadWordWrong)

/-- 'laws.FnExactWordNot': WHATEVER THE INPUT: true; the input reads as it did. -/
def fnExactWordNotSpec : ChangeSpec := { name := "fnExactWordNot", fn := fun _ => fun
  | [d1, d2] => { results := [.lit (.bool true)], args := [d1, d2] }
  | _ => none }
def fnExactWordNotRow : OpenClaim := { program := "ytijabkdnciopjaa", sum := "01da4b867b9a8b9e74892142657923b77064ce7bd350e13a9bdbd303121c1f90", func := "loop.example/bitwords/laws.FnExactWordNot", spec := "fnExactWordNot", unfollowed := true, recurses := true, apart := false }
def FnExactWordNotSaid : Prop := fnExactWordNotRow.holds Try.pinned (OpenSpec.ofChange fnExactWordNotSpec)

/-- ITS FALSE NEIGHBOUR: 'it returns false'. Refute it at one input. -/
def fnExactWordNotWrong : ChangeSpec := { name := "fnExactWordNot", fn := fun _ => fun
  | [d1, d2] => { results := [.lit (.bool false)], args := [d1, d2] }
  | _ => none }
def FnExactWordNotWrongFalsely : Prop := fnExactWordNotRow.holds Try.pinned (OpenSpec.ofChange fnExactWordNotWrong)

/-- 'laws.FnExactWordRight': WHATEVER THE INPUT: true; the input reads as it did. -/
def fnExactWordRightSpec : ChangeSpec := { name := "fnExactWordRight", fn := fun _ => fun
  | [d1, d2, d3] => { results := [.lit (.bool true)], args := [d1, d2, d3] }
  | _ => none }
def fnExactWordRightRow : OpenClaim := { program := "ytijabkdnciopjaa", sum := "01da4b867b9a8b9e74892142657923b77064ce7bd350e13a9bdbd303121c1f90", func := "loop.example/bitwords/laws.FnExactWordRight", spec := "fnExactWordRight", unfollowed := true, recurses := true, apart := false }
def FnExactWordRightSaid : Prop := fnExactWordRightRow.holds Try.pinned (OpenSpec.ofChange fnExactWordRightSpec)

/-- ITS FALSE NEIGHBOUR: 'it returns false'. Refute it at one input. -/
def fnExactWordRightWrong : ChangeSpec := { name := "fnExactWordRight", fn := fun _ => fun
  | [d1, d2, d3] => { results := [.lit (.bool false)], args := [d1, d2, d3] }
  | _ => none }
def FnExactWordRightWrongFalsely : Prop := fnExactWordRightRow.holds Try.pinned (OpenSpec.ofChange fnExactWordRightWrong)

/-- 'laws.FnExactSignedOf': WHATEVER THE INPUT: true; the input reads as it did. -/
def fnExactSignedOfSpec : ChangeSpec := { name := "fnExactSignedOf", fn := fun _ => fun
  | [d1, d2] => { results := [.lit (.bool true)], args := [d1, d2] }
  | _ => none }
def fnExactSignedOfRow : OpenClaim := { program := "ytijabkdnciopjaa", sum := "01da4b867b9a8b9e74892142657923b77064ce7bd350e13a9bdbd303121c1f90", func := "loop.example/bitwords/laws.FnExactSignedOf", spec := "fnExactSignedOf", apart := false }
def FnExactSignedOfSaid : Prop := fnExactSignedOfRow.holds Try.pinned (OpenSpec.ofChange fnExactSignedOfSpec)

/-- ITS FALSE NEIGHBOUR: 'it returns false'. Refute it at one input. -/
def fnExactSignedOfWrong : ChangeSpec := { name := "fnExactSignedOf", fn := fun _ => fun
  | [d1, d2] => { results := [.lit (.bool false)], args := [d1, d2] }
  | _ => none }
def FnExactSignedOfWrongFalsely : Prop := fnExactSignedOfRow.holds Try.pinned (OpenSpec.ofChange fnExactSignedOfWrong)

/-- 'laws.FnExactWordDivide': WHATEVER THE INPUT: true; the input reads as it did. -/
def fnExactWordDivideSpec : ChangeSpec := { name := "fnExactWordDivide", fn := fun _ => fun
  | [d1, d2, d3] => { results := [.lit (.bool true)], args := [d1, d2, d3] }
  | _ => none }
def fnExactWordDivideRow : OpenClaim := { program := "ytijabkdnciopjaa", sum := "01da4b867b9a8b9e74892142657923b77064ce7bd350e13a9bdbd303121c1f90", func := "loop.example/bitwords/laws.FnExactWordDivide", spec := "fnExactWordDivide", apart := false }
def FnExactWordDivideSaid : Prop := fnExactWordDivideRow.holds Try.pinned (OpenSpec.ofChange fnExactWordDivideSpec)

/-- ITS FALSE NEIGHBOUR: 'it returns false'. Refute it at one input. -/
def fnExactWordDivideWrong : ChangeSpec := { name := "fnExactWordDivide", fn := fun _ => fun
  | [d1, d2, d3] => { results := [.lit (.bool false)], args := [d1, d2, d3] }
  | _ => none }
def FnExactWordDivideWrongFalsely : Prop := fnExactWordDivideRow.holds Try.pinned (OpenSpec.ofChange fnExactWordDivideWrong)

/-- 'laws.FnExactWordLeft': WHATEVER THE INPUT: true; the input reads as it did. -/
def fnExactWordLeftSpec : ChangeSpec := { name := "fnExactWordLeft", fn := fun _ => fun
  | [d1, d2, d3] => { results := [.lit (.bool true)], args := [d1, d2, d3] }
  | _ => none }
def fnExactWordLeftRow : OpenClaim := { program := "ytijabkdnciopjaa", sum := "01da4b867b9a8b9e74892142657923b77064ce7bd350e13a9bdbd303121c1f90", func := "loop.example/bitwords/laws.FnExactWordLeft", spec := "fnExactWordLeft", unfollowed := true, recurses := true, apart := false }
def FnExactWordLeftSaid : Prop := fnExactWordLeftRow.holds Try.pinned (OpenSpec.ofChange fnExactWordLeftSpec)

/-- ITS FALSE NEIGHBOUR: 'it returns false'. Refute it at one input. -/
def fnExactWordLeftWrong : ChangeSpec := { name := "fnExactWordLeft", fn := fun _ => fun
  | [d1, d2, d3] => { results := [.lit (.bool false)], args := [d1, d2, d3] }
  | _ => none }
def FnExactWordLeftWrongFalsely : Prop := fnExactWordLeftRow.holds Try.pinned (OpenSpec.ofChange fnExactWordLeftWrong)

/-- 'laws.FnExactWordTurn': WHATEVER THE INPUT: true; the input reads as it did. -/
def fnExactWordTurnSpec : ChangeSpec := { name := "fnExactWordTurn", fn := fun _ => fun
  | [d1, d2, d3] => { results := [.lit (.bool true)], args := [d1, d2, d3] }
  | _ => none }
def fnExactWordTurnRow : OpenClaim := { program := "ytijabkdnciopjaa", sum := "01da4b867b9a8b9e74892142657923b77064ce7bd350e13a9bdbd303121c1f90", func := "loop.example/bitwords/laws.FnExactWordTurn", spec := "fnExactWordTurn", unfollowed := true, recurses := true, apart := false }
def FnExactWordTurnSaid : Prop := fnExactWordTurnRow.holds Try.pinned (OpenSpec.ofChange fnExactWordTurnSpec)

/-- ITS FALSE NEIGHBOUR: 'it returns false'. Refute it at one input. -/
def fnExactWordTurnWrong : ChangeSpec := { name := "fnExactWordTurn", fn := fun _ => fun
  | [d1, d2, d3] => { results := [.lit (.bool false)], args := [d1, d2, d3] }
  | _ => none }
def FnExactWordTurnWrongFalsely : Prop := fnExactWordTurnRow.holds Try.pinned (OpenSpec.ofChange fnExactWordTurnWrong)

/-- 'laws.FnExactHalfTimes': WHATEVER THE INPUT: true; the input reads as it did. -/
def fnExactHalfTimesSpec : ChangeSpec := { name := "fnExactHalfTimes", fn := fun _ => fun
  | [d1, d2, d3] => { results := [.lit (.bool true)], args := [d1, d2, d3] }
  | _ => none }
def fnExactHalfTimesRow : OpenClaim := { program := "ytijabkdnciopjaa", sum := "01da4b867b9a8b9e74892142657923b77064ce7bd350e13a9bdbd303121c1f90", func := "loop.example/bitwords/laws.FnExactHalfTimes", spec := "fnExactHalfTimes", apart := false }
def FnExactHalfTimesSaid : Prop := fnExactHalfTimesRow.holds Try.pinned (OpenSpec.ofChange fnExactHalfTimesSpec)

/-- ITS FALSE NEIGHBOUR: 'it returns false'. Refute it at one input. -/
def fnExactHalfTimesWrong : ChangeSpec := { name := "fnExactHalfTimes", fn := fun _ => fun
  | [d1, d2, d3] => { results := [.lit (.bool false)], args := [d1, d2, d3] }
  | _ => none }
def FnExactHalfTimesWrongFalsely : Prop := fnExactHalfTimesRow.holds Try.pinned (OpenSpec.ofChange fnExactHalfTimesWrong)

/- THE SECOND FORM. 'bulk': how many values and letters a reading holds, each counted each time it is reached (what is shared counts as often as it is met; a slice's spare places count too). A statement '..UptoSaid' is the law's where the arguments, and the package variables that the reading takes, are together of bulk at most 1048576: NARROWER than '..Said'. Prove '..Said' where nothing that the law and all that it calls make is longer than what came in: it says more and counts as full. Else prove '..UptoSaid'. A law counts once. -/
mutual
def uptoBulk {H : Type} : DataW H → Nat
  | .lit (.string bytes) => bytes.length + 1
  | .lit _ => 1
  | .nil => 1
  | .ptr d => uptoBulk d + 1
  | .slice elems spare => uptoBulkAll elems + uptoBulkAll spare + 1
  | .agg parts => uptoBulkAll parts + 1
  | .iface _ d => uptoBulk d + 1
  | .map entries => uptoBulkEntries entries + 1
  | .held _ => 1
def uptoBulkAll {H : Type} : List (DataW H) → Nat
  | [] => 0
  | d :: r => uptoBulk d + uptoBulkAll r
def uptoBulkEntries {H : Type} : List (Lit × DataW H) → Nat
  | [] => 0
  | x :: r => uptoBulkEntry x + uptoBulkEntries r
def uptoBulkEntry {H : Type} : Lit × DataW H → Nat
  | (.string bytes, d) => bytes.length + uptoBulk d + 1
  | (_, d) => uptoBulk d + 1
 end
def uptoSmall : (H : Type) → List (DataW H) → Bool := fun _ ds => decide (uptoBulkAll ds ≤ 1048576)
def OpenSpec.upto (s : _root_.Go.ChangeSpec) : _root_.Go.OpenSpec := { _root_.Go.OpenSpec.ofChange s with cond := some uptoSmall }

/-- 'laws.FnExactConstants', WHERE WHAT IT READS IS OF BULK AT MOST 1048576: true; the input reads as it did. -/
def fnExactConstantsUptoRow : OpenClaim := { program := "ytijabkdnciopjaa", sum := "01da4b867b9a8b9e74892142657923b77064ce7bd350e13a9bdbd303121c1f90", func := "loop.example/bitwords/laws.FnExactConstants", spec := "fnExactConstants", apart := false, narrowed := true }
def FnExactConstantsUptoSaid : Prop := fnExactConstantsUptoRow.holds Try.pinned (OpenSpec.upto fnExactConstantsSpec)

/-- 'laws.FnExactWordValid', WHERE WHAT IT READS IS OF BULK AT MOST 1048576: true; the input reads as it did. -/
def fnExactWordValidUptoRow : OpenClaim := { program := "ytijabkdnciopjaa", sum := "01da4b867b9a8b9e74892142657923b77064ce7bd350e13a9bdbd303121c1f90", func := "loop.example/bitwords/laws.FnExactWordValid", spec := "fnExactWordValid", apart := false, narrowed := true }
def FnExactWordValidUptoSaid : Prop := fnExactWordValidUptoRow.holds Try.pinned (OpenSpec.upto fnExactWordValidSpec)

/-- 'laws.FnExactCarryJoin', WHERE WHAT IT READS IS OF BULK AT MOST 1048576: true; the input reads as it did. -/
def fnExactCarryJoinUptoRow : OpenClaim := { program := "ytijabkdnciopjaa", sum := "01da4b867b9a8b9e74892142657923b77064ce7bd350e13a9bdbd303121c1f90", func := "loop.example/bitwords/laws.FnExactCarryJoin", spec := "fnExactCarryJoin", apart := false, narrowed := true }
def FnExactCarryJoinUptoSaid : Prop := fnExactCarryJoinUptoRow.holds Try.pinned (OpenSpec.upto fnExactCarryJoinSpec)

/-- 'laws.FnExactWordOf', WHERE WHAT IT READS IS OF BULK AT MOST 1048576: true; the input reads as it did. -/
def fnExactWordOfUptoRow : OpenClaim := { program := "ytijabkdnciopjaa", sum := "01da4b867b9a8b9e74892142657923b77064ce7bd350e13a9bdbd303121c1f90", func := "loop.example/bitwords/laws.FnExactWordOf", spec := "fnExactWordOf", apart := false, narrowed := true }
def FnExactWordOfUptoSaid : Prop := fnExactWordOfUptoRow.holds Try.pinned (OpenSpec.upto fnExactWordOfSpec)

/-- 'laws.FnExactReadWord', WHERE WHAT IT READS IS OF BULK AT MOST 1048576: true; the input reads as it did. -/
def fnExactReadWordUptoRow : OpenClaim := { program := "ytijabkdnciopjaa", sum := "01da4b867b9a8b9e74892142657923b77064ce7bd350e13a9bdbd303121c1f90", func := "loop.example/bitwords/laws.FnExactReadWord", spec := "fnExactReadWord", apart := false, narrowed := true }
def FnExactReadWordUptoSaid : Prop := fnExactReadWordUptoRow.holds Try.pinned (OpenSpec.upto fnExactReadWordSpec)

/-- 'laws.FnExactWordNot', WHERE WHAT IT READS IS OF BULK AT MOST 1048576: true; the input reads as it did. -/
def fnExactWordNotUptoRow : OpenClaim := { program := "ytijabkdnciopjaa", sum := "01da4b867b9a8b9e74892142657923b77064ce7bd350e13a9bdbd303121c1f90", func := "loop.example/bitwords/laws.FnExactWordNot", spec := "fnExactWordNot", unfollowed := true, recurses := true, apart := false, narrowed := true }
def FnExactWordNotUptoSaid : Prop := fnExactWordNotUptoRow.holds Try.pinned (OpenSpec.upto fnExactWordNotSpec)

/-- 'laws.FnExactWordRight', WHERE WHAT IT READS IS OF BULK AT MOST 1048576: true; the input reads as it did. -/
def fnExactWordRightUptoRow : OpenClaim := { program := "ytijabkdnciopjaa", sum := "01da4b867b9a8b9e74892142657923b77064ce7bd350e13a9bdbd303121c1f90", func := "loop.example/bitwords/laws.FnExactWordRight", spec := "fnExactWordRight", unfollowed := true, recurses := true, apart := false, narrowed := true }
def FnExactWordRightUptoSaid : Prop := fnExactWordRightUptoRow.holds Try.pinned (OpenSpec.upto fnExactWordRightSpec)

/-- 'laws.FnExactSignedOf', WHERE WHAT IT READS IS OF BULK AT MOST 1048576: true; the input reads as it did. -/
def fnExactSignedOfUptoRow : OpenClaim := { program := "ytijabkdnciopjaa", sum := "01da4b867b9a8b9e74892142657923b77064ce7bd350e13a9bdbd303121c1f90", func := "loop.example/bitwords/laws.FnExactSignedOf", spec := "fnExactSignedOf", apart := false, narrowed := true }
def FnExactSignedOfUptoSaid : Prop := fnExactSignedOfUptoRow.holds Try.pinned (OpenSpec.upto fnExactSignedOfSpec)

/-- 'laws.FnExactWordDivide', WHERE WHAT IT READS IS OF BULK AT MOST 1048576: true; the input reads as it did. -/
def fnExactWordDivideUptoRow : OpenClaim := { program := "ytijabkdnciopjaa", sum := "01da4b867b9a8b9e74892142657923b77064ce7bd350e13a9bdbd303121c1f90", func := "loop.example/bitwords/laws.FnExactWordDivide", spec := "fnExactWordDivide", apart := false, narrowed := true }
def FnExactWordDivideUptoSaid : Prop := fnExactWordDivideUptoRow.holds Try.pinned (OpenSpec.upto fnExactWordDivideSpec)

/-- 'laws.FnExactWordLeft', WHERE WHAT IT READS IS OF BULK AT MOST 1048576: true; the input reads as it did. -/
def fnExactWordLeftUptoRow : OpenClaim := { program := "ytijabkdnciopjaa", sum := "01da4b867b9a8b9e74892142657923b77064ce7bd350e13a9bdbd303121c1f90", func := "loop.example/bitwords/laws.FnExactWordLeft", spec := "fnExactWordLeft", unfollowed := true, recurses := true, apart := false, narrowed := true }
def FnExactWordLeftUptoSaid : Prop := fnExactWordLeftUptoRow.holds Try.pinned (OpenSpec.upto fnExactWordLeftSpec)

/-- 'laws.FnExactWordTurn', WHERE WHAT IT READS IS OF BULK AT MOST 1048576: true; the input reads as it did. -/
def fnExactWordTurnUptoRow : OpenClaim := { program := "ytijabkdnciopjaa", sum := "01da4b867b9a8b9e74892142657923b77064ce7bd350e13a9bdbd303121c1f90", func := "loop.example/bitwords/laws.FnExactWordTurn", spec := "fnExactWordTurn", unfollowed := true, recurses := true, apart := false, narrowed := true }
def FnExactWordTurnUptoSaid : Prop := fnExactWordTurnUptoRow.holds Try.pinned (OpenSpec.upto fnExactWordTurnSpec)

/-- 'laws.FnExactHalfTimes', WHERE WHAT IT READS IS OF BULK AT MOST 1048576: true; the input reads as it did. -/
def fnExactHalfTimesUptoRow : OpenClaim := { program := "ytijabkdnciopjaa", sum := "01da4b867b9a8b9e74892142657923b77064ce7bd350e13a9bdbd303121c1f90", func := "loop.example/bitwords/laws.FnExactHalfTimes", spec := "fnExactHalfTimes", apart := false, narrowed := true }
def FnExactHalfTimesUptoSaid : Prop := fnExactHalfTimesUptoRow.holds Try.pinned (OpenSpec.upto fnExactHalfTimesSpec)

end Rows
end Go.Proofs.Ytijabkdnciopjaa
