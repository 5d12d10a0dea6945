/-
  No cell of these rows narrows 'for every input' (looked for: loops, veiled, ifaces, maps, wideKeys, modest, calm, conditions, laid).
  DERIVED. THE GIVEN ROWS OF THIS SEAT. 12 by the template 'for every input the law returns true; each argument reads behind the call as it read before'; 0 by the template 'total and deterministic' (their statements: YteafbfmljhcpiaaTotals.lean).
  GIVEN WITH THE SEED: the statements are not yours to turn. If you find one false, say at which input.
  Laid BY PROGRAM, IN A SANDBOX (cutbox-rows.mjs): the forced cells as the released guide's own fill.sh prints them over the translation 190abc30112d206f… (all of the seat's roots in one cut). By AI agents, Wed Nov 11 2026. No macro, syntax, notation, axiom, sorry.
-/
import Derived.Test.YteafbfmljhcpiaaChecked
import GoSem.Claim
import GoSem.ClaimJoined
import GoSem.ClaimMapViews
import Derived.JoinedTies
import Derived.KernelRfl
namespace Go.Proofs.Yteafbfmljhcpiaa
/- THE CELL 'sum', in the pinned program and in every row, IS THE sha256 OF THE DUMP (.gsa) THAT YteafbfmljhcpiaaProg.lean LOADS. Nothing in Lean hashes anything: it is a label: what it is worth is what the hold of that sum in a sandbox is worth. -/
noncomputable def Try.pinned : Pinned := { name := "yteafbfmljhcpiaa", sum := "190abc30112d206fb91e0db613841e879b1b65ec1d35eeb0d2fce76e14f18d5c", checked := Try.checked }
namespace Rows
def none {H : Type} : Left H := { results := [], args := [] }

/-- 'laws.FnExactWideTimes': WHATEVER THE INPUT: true; the input reads as it did. -/
def fnExactWideTimesSpec : ChangeSpec := { name := "fnExactWideTimes", fn := fun _ => fun
  | [d1, d2, d3] => { results := [.lit (.bool true)], args := [d1, d2, d3] }
  | _ => none }
def fnExactWideTimesRow : OpenClaim := { program := "yteafbfmljhcpiaa", sum := "190abc30112d206fb91e0db613841e879b1b65ec1d35eeb0d2fce76e14f18d5c", func := "loop.example/bitwords/laws.FnExactWideTimes", spec := "fnExactWideTimes", apart := false }
def FnExactWideTimesSaid : Prop := fnExactWideTimesRow.holds Try.pinned (OpenSpec.ofChange fnExactWideTimesSpec)

/-- ITS FALSE NEIGHBOUR: 'it returns false'. Refute it at one input. -/
def fnExactWideTimesWrong : ChangeSpec := { name := "fnExactWideTimes", fn := fun _ => fun
  | [d1, d2, d3] => { results := [.lit (.bool false)], args := [d1, d2, d3] }
  | _ => none }
def FnExactWideTimesWrongFalsely : Prop := fnExactWideTimesRow.holds Try.pinned (OpenSpec.ofChange fnExactWideTimesWrong)

/-- 'laws.FnExactWordAdd': WHATEVER THE INPUT: true; the input reads as it did. -/
def fnExactWordAddSpec : ChangeSpec := { name := "fnExactWordAdd", fn := fun _ => fun
  | [d1, d2, d3] => { results := [.lit (.bool true)], args := [d1, d2, d3] }
  | _ => none }
def fnExactWordAddRow : OpenClaim := { program := "yteafbfmljhcpiaa", sum := "190abc30112d206fb91e0db613841e879b1b65ec1d35eeb0d2fce76e14f18d5c", func := "loop.example/bitwords/laws.FnExactWordAdd", spec := "fnExactWordAdd", unfollowed := true, recurses := true, apart := false }
def FnExactWordAddSaid : Prop := fnExactWordAddRow.holds Try.pinned (OpenSpec.ofChange fnExactWordAddSpec)

/-- ITS FALSE NEIGHBOUR: 'it returns false'. Refute it at one input. -/
def fnExactWordAddWrong : ChangeSpec := { name := "fnExactWordAdd", fn := fun _ => fun
  | [d1, d2, d3] => { results := [.lit (.bool false)], args := [d1, d2, d3] }
  | _ => none }
def FnExactWordAddWrongFalsely : Prop := fnExactWordAddRow.holds Try.pinned (OpenSpec.ofChange fnExactWordAddWrong)

/-- 'laws.FnExactWordSub': WHATEVER THE INPUT: true; the input reads as it did. -/
def fnExactWordSubSpec : ChangeSpec := { name := "fnExactWordSub", fn := fun _ => fun
  | [d1, d2, d3] => { results := [.lit (.bool true)], args := [d1, d2, d3] }
  | _ => none }
def fnExactWordSubRow : OpenClaim := { program := "yteafbfmljhcpiaa", sum := "190abc30112d206fb91e0db613841e879b1b65ec1d35eeb0d2fce76e14f18d5c", func := "loop.example/bitwords/laws.FnExactWordSub", spec := "fnExactWordSub", unfollowed := true, recurses := true, apart := false }
def FnExactWordSubSaid : Prop := fnExactWordSubRow.holds Try.pinned (OpenSpec.ofChange fnExactWordSubSpec)

/-- ITS FALSE NEIGHBOUR: 'it returns false'. Refute it at one input. -/
def fnExactWordSubWrong : ChangeSpec := { name := "fnExactWordSub", fn := fun _ => fun
  | [d1, d2, d3] => { results := [.lit (.bool false)], args := [d1, d2, d3] }
  | _ => none }
def FnExactWordSubWrongFalsely : Prop := fnExactWordSubRow.holds Try.pinned (OpenSpec.ofChange fnExactWordSubWrong)

/-- 'laws.FnExactWordTimes': WHATEVER THE INPUT: true; the input reads as it did. -/
def fnExactWordTimesSpec : ChangeSpec := { name := "fnExactWordTimes", fn := fun _ => fun
  | [d1, d2, d3] => { results := [.lit (.bool true)], args := [d1, d2, d3] }
  | _ => none }
def fnExactWordTimesRow : OpenClaim := { program := "yteafbfmljhcpiaa", sum := "190abc30112d206fb91e0db613841e879b1b65ec1d35eeb0d2fce76e14f18d5c", func := "loop.example/bitwords/laws.FnExactWordTimes", spec := "fnExactWordTimes", unfollowed := true, recurses := true, apart := false }
def FnExactWordTimesSaid : Prop := fnExactWordTimesRow.holds Try.pinned (OpenSpec.ofChange fnExactWordTimesSpec)

/-- ITS FALSE NEIGHBOUR: 'it returns false'. Refute it at one input. -/
def fnExactWordTimesWrong : ChangeSpec := { name := "fnExactWordTimes", fn := fun _ => fun
  | [d1, d2, d3] => { results := [.lit (.bool false)], args := [d1, d2, d3] }
  | _ => none }
def FnExactWordTimesWrongFalsely : Prop := fnExactWordTimesRow.holds Try.pinned (OpenSpec.ofChange fnExactWordTimesWrong)

/-- 'laws.FnExactWordAnd': WHATEVER THE INPUT: true; the input reads as it did. -/
def fnExactWordAndSpec : ChangeSpec := { name := "fnExactWordAnd", fn := fun _ => fun
  | [d1, d2, d3] => { results := [.lit (.bool true)], args := [d1, d2, d3] }
  | _ => none }
def fnExactWordAndRow : OpenClaim := { program := "yteafbfmljhcpiaa", sum := "190abc30112d206fb91e0db613841e879b1b65ec1d35eeb0d2fce76e14f18d5c", func := "loop.example/bitwords/laws.FnExactWordAnd", spec := "fnExactWordAnd", unfollowed := true, recurses := true, apart := false }
def FnExactWordAndSaid : Prop := fnExactWordAndRow.holds Try.pinned (OpenSpec.ofChange fnExactWordAndSpec)

/-- ITS FALSE NEIGHBOUR: 'it returns false'. Refute it at one input. -/
def fnExactWordAndWrong : ChangeSpec := { name := "fnExactWordAnd", fn := fun _ => fun
  | [d1, d2, d3] => { results := [.lit (.bool false)], args := [d1, d2, d3] }
  | _ => none }
def FnExactWordAndWrongFalsely : Prop := fnExactWordAndRow.holds Try.pinned (OpenSpec.ofChange fnExactWordAndWrong)

/-- 'laws.FnExactWordDown': WHATEVER THE INPUT: true; the input reads as it did. -/
def fnExactWordDownSpec : ChangeSpec := { name := "fnExactWordDown", fn := fun _ => fun
  | [d1, d2, d3] => { results := [.lit (.bool true)], args := [d1, d2, d3] }
  | _ => none }
def fnExactWordDownRow : OpenClaim := { program := "yteafbfmljhcpiaa", sum := "190abc30112d206fb91e0db613841e879b1b65ec1d35eeb0d2fce76e14f18d5c", func := "loop.example/bitwords/laws.FnExactWordDown", spec := "fnExactWordDown", unfollowed := true, recurses := true, apart := false }
def FnExactWordDownSaid : Prop := fnExactWordDownRow.holds Try.pinned (OpenSpec.ofChange fnExactWordDownSpec)

/-- ITS FALSE NEIGHBOUR: 'it returns false'. Refute it at one input. -/
def fnExactWordDownWrong : ChangeSpec := { name := "fnExactWordDown", fn := fun _ => fun
  | [d1, d2, d3] => { results := [.lit (.bool false)], args := [d1, d2, d3] }
  | _ => none }
def FnExactWordDownWrongFalsely : Prop := fnExactWordDownRow.holds Try.pinned (OpenSpec.ofChange fnExactWordDownWrong)

/-- 'laws.FnExactWordOr': WHATEVER THE INPUT: true; the input reads as it did. -/
def fnExactWordOrSpec : ChangeSpec := { name := "fnExactWordOr", fn := fun _ => fun
  | [d1, d2, d3] => { results := [.lit (.bool true)], args := [d1, d2, d3] }
  | _ => none }
def fnExactWordOrRow : OpenClaim := { program := "yteafbfmljhcpiaa", sum := "190abc30112d206fb91e0db613841e879b1b65ec1d35eeb0d2fce76e14f18d5c", func := "loop.example/bitwords/laws.FnExactWordOr", spec := "fnExactWordOr", unfollowed := true, recurses := true, apart := false }
def FnExactWordOrSaid : Prop := fnExactWordOrRow.holds Try.pinned (OpenSpec.ofChange fnExactWordOrSpec)

/-- ITS FALSE NEIGHBOUR: 'it returns false'. Refute it at one input. -/
def fnExactWordOrWrong : ChangeSpec := { name := "fnExactWordOr", fn := fun _ => fun
  | [d1, d2, d3] => { results := [.lit (.bool false)], args := [d1, d2, d3] }
  | _ => none }
def FnExactWordOrWrongFalsely : Prop := fnExactWordOrRow.holds Try.pinned (OpenSpec.ofChange fnExactWordOrWrong)

/-- 'laws.FnExactWordXor': WHATEVER THE INPUT: true; the input reads as it did. -/
def fnExactWordXorSpec : ChangeSpec := { name := "fnExactWordXor", fn := fun _ => fun
  | [d1, d2, d3] => { results := [.lit (.bool true)], args := [d1, d2, d3] }
  | _ => none }
def fnExactWordXorRow : OpenClaim := { program := "yteafbfmljhcpiaa", sum := "190abc30112d206fb91e0db613841e879b1b65ec1d35eeb0d2fce76e14f18d5c", func := "loop.example/bitwords/laws.FnExactWordXor", spec := "fnExactWordXor", unfollowed := true, recurses := true, apart := false }
def FnExactWordXorSaid : Prop := fnExactWordXorRow.holds Try.pinned (OpenSpec.ofChange fnExactWordXorSpec)

/-- ITS FALSE NEIGHBOUR: 'it returns false'. Refute it at one input. -/
def fnExactWordXorWrong : ChangeSpec := { name := "fnExactWordXor", fn := fun _ => fun
  | [d1, d2, d3] => { results := [.lit (.bool false)], args := [d1, d2, d3] }
  | _ => none }
def FnExactWordXorWrongFalsely : Prop := fnExactWordXorRow.holds Try.pinned (OpenSpec.ofChange fnExactWordXorWrong)

/-- 'laws.FnExactLessSigned': WHATEVER THE INPUT: true; the input reads as it did. -/
def fnExactLessSignedSpec : ChangeSpec := { name := "fnExactLessSigned", fn := fun _ => fun
  | [d1, d2, d3] => { results := [.lit (.bool true)], args := [d1, d2, d3] }
  | _ => none }
def fnExactLessSignedRow : OpenClaim := { program := "yteafbfmljhcpiaa", sum := "190abc30112d206fb91e0db613841e879b1b65ec1d35eeb0d2fce76e14f18d5c", func := "loop.example/bitwords/laws.FnExactLessSigned", spec := "fnExactLessSigned", apart := false }
def FnExactLessSignedSaid : Prop := fnExactLessSignedRow.holds Try.pinned (OpenSpec.ofChange fnExactLessSignedSpec)

/-- ITS FALSE NEIGHBOUR: 'it returns false'. Refute it at one input. -/
def fnExactLessSignedWrong : ChangeSpec := { name := "fnExactLessSigned", fn := fun _ => fun
  | [d1, d2, d3] => { results := [.lit (.bool false)], args := [d1, d2, d3] }
  | _ => none }
def FnExactLessSignedWrongFalsely : Prop := fnExactLessSignedRow.holds Try.pinned (OpenSpec.ofChange fnExactLessSignedWrong)

/-- 'laws.FnExactAddFits': WHATEVER THE INPUT: true; the input reads as it did. -/
def fnExactAddFitsSpec : ChangeSpec := { name := "fnExactAddFits", fn := fun _ => fun
  | [d1, d2, d3] => { results := [.lit (.bool true)], args := [d1, d2, d3] }
  | _ => none }
def fnExactAddFitsRow : OpenClaim := { program := "yteafbfmljhcpiaa", sum := "190abc30112d206fb91e0db613841e879b1b65ec1d35eeb0d2fce76e14f18d5c", func := "loop.example/bitwords/laws.FnExactAddFits", spec := "fnExactAddFits", apart := false }
def FnExactAddFitsSaid : Prop := fnExactAddFitsRow.holds Try.pinned (OpenSpec.ofChange fnExactAddFitsSpec)

/-- ITS FALSE NEIGHBOUR: 'it returns false'. Refute it at one input. -/
def fnExactAddFitsWrong : ChangeSpec := { name := "fnExactAddFits", fn := fun _ => fun
  | [d1, d2, d3] => { results := [.lit (.bool false)], args := [d1, d2, d3] }
  | _ => none }
def FnExactAddFitsWrongFalsely : Prop := fnExactAddFitsRow.holds Try.pinned (OpenSpec.ofChange fnExactAddFitsWrong)

/-- 'laws.FnExactLessByCarry': WHATEVER THE INPUT: true; the input reads as it did. -/
def fnExactLessByCarrySpec : ChangeSpec := { name := "fnExactLessByCarry", fn := fun _ => fun
  | [d1, d2, d3] => { results := [.lit (.bool true)], args := [d1, d2, d3] }
  | _ => none }
def fnExactLessByCarryRow : OpenClaim := { program := "yteafbfmljhcpiaa", sum := "190abc30112d206fb91e0db613841e879b1b65ec1d35eeb0d2fce76e14f18d5c", func := "loop.example/bitwords/laws.FnExactLessByCarry", spec := "fnExactLessByCarry", apart := false }
def FnExactLessByCarrySaid : Prop := fnExactLessByCarryRow.holds Try.pinned (OpenSpec.ofChange fnExactLessByCarrySpec)

/-- ITS FALSE NEIGHBOUR: 'it returns false'. Refute it at one input. -/
def fnExactLessByCarryWrong : ChangeSpec := { name := "fnExactLessByCarry", fn := fun _ => fun
  | [d1, d2, d3] => { results := [.lit (.bool false)], args := [d1, d2, d3] }
  | _ => none }
def FnExactLessByCarryWrongFalsely : Prop := fnExactLessByCarryRow.holds Try.pinned (OpenSpec.ofChange fnExactLessByCarryWrong)

/-- 'laws.FnExactSignedDivide': WHATEVER THE INPUT: true; the input reads as it did. -/
def fnExactSignedDivideSpec : ChangeSpec := { name := "fnExactSignedDivide", fn := fun _ => fun
  | [d1, d2, d3] => { results := [.lit (.bool true)], args := [d1, d2, d3] }
  | _ => none }
def fnExactSignedDivideRow : OpenClaim := { program := "yteafbfmljhcpiaa", sum := "190abc30112d206fb91e0db613841e879b1b65ec1d35eeb0d2fce76e14f18d5c", func := "loop.example/bitwords/laws.FnExactSignedDivide", spec := "fnExactSignedDivide", apart := false }
def FnExactSignedDivideSaid : Prop := fnExactSignedDivideRow.holds Try.pinned (OpenSpec.ofChange fnExactSignedDivideSpec)

/-- ITS FALSE NEIGHBOUR: 'it returns false'. Refute it at one input. -/
def fnExactSignedDivideWrong : ChangeSpec := { name := "fnExactSignedDivide", fn := fun _ => fun
  | [d1, d2, d3] => { results := [.lit (.bool false)], args := [d1, d2, d3] }
  | _ => none }
def FnExactSignedDivideWrongFalsely : Prop := fnExactSignedDivideRow.holds Try.pinned (OpenSpec.ofChange fnExactSignedDivideWrong)

/- THE SECOND FORM. 'bulk': how many values and letters a reading holds, each counted each time it is reached (what is shared counts as often as it is met; a slice's spare places count too). A statement '..UptoSaid' is the law's where the arguments, and the package variables that the reading takes, are together of bulk at most 1048576: NARROWER than '..Said'. Prove '..Said' where nothing that the law and all that it calls make is longer than what came in: it says more and counts as full. Else prove '..UptoSaid'. A law counts once. -/
mutual
def uptoBulk {H : Type} : DataW H → Nat
  | .lit (.string bytes) => bytes.length + 1
  | .lit _ => 1
  | .nil => 1
  | .ptr d => uptoBulk d + 1
  | .slice elems spare => uptoBulkAll elems + uptoBulkAll spare + 1
  | .agg parts => uptoBulkAll parts + 1
  | .iface _ d => uptoBulk d + 1
  | .map entries => uptoBulkEntries entries + 1
  | .held _ => 1
def uptoBulkAll {H : Type} : List (DataW H) → Nat
  | [] => 0
  | d :: r => uptoBulk d + uptoBulkAll r
def uptoBulkEntries {H : Type} : List (Lit × DataW H) → Nat
  | [] => 0
  | x :: r => uptoBulkEntry x + uptoBulkEntries r
def uptoBulkEntry {H : Type} : Lit × DataW H → Nat
  | (.string bytes, d) => bytes.length + uptoBulk d + 1
  | (_, d) => uptoBulk d + 1
 end
def uptoSmall : (H : Type) → List (DataW H) → Bool := fun _ ds => decide (uptoBulkAll ds ≤ 1048576)
def OpenSpec.upto (s : _root_.Go.ChangeSpec) : _root_.Go.OpenSpec := { _root_.Go.OpenSpec.ofChange s with cond := some uptoSmall }

/-- 'laws.FnExactWideTimes', WHERE WHAT IT READS IS OF BULK AT MOST 1048576: true; the input reads as it did. -/
def fnExactWideTimesUptoRow : OpenClaim := { program := "yteafbfmljhcpiaa", sum := "190abc30112d206fb91e0db613841e879b1b65ec1d35eeb0d2fce76e14f18d5c", func := "loop.example/bitwords/laws.FnExactWideTimes", spec := "fnExactWideTimes", apart := false, narrowed := true }
def FnExactWideTimesUptoSaid : Prop := fnExactWideTimesUptoRow.holds Try.pinned (OpenSpec.upto fnExactWideTimesSpec)

/-- 'laws.FnExactWordAdd', WHERE WHAT IT READS IS OF BULK AT MOST 1048576: true; the input reads as it did. -/
def fnExactWordAddUptoRow : OpenClaim := { program := "yteafbfmljhcpiaa", sum := "190abc30112d206fb91e0db613841e879b1b65ec1d35eeb0d2fce76e14f18d5c", func := "loop.example/bitwords/laws.FnExactWordAdd", spec := "fnExactWordAdd", unfollowed := true, recurses := true, apart := false, narrowed := true }
def FnExactWordAddUptoSaid : Prop := fnExactWordAddUptoRow.holds Try.pinned (OpenSpec.upto fnExactWordAddSpec)

/-- 'laws.FnExactWordSub', WHERE WHAT IT READS IS OF BULK AT MOST 1048576: true; the input reads as it did. -/
def fnExactWordSubUptoRow : OpenClaim := { program := "yteafbfmljhcpiaa", sum := "190abc30112d206fb91e0db613841e879b1b65ec1d35eeb0d2fce76e14f18d5c", func := "loop.example/bitwords/laws.FnExactWordSub", spec := "fnExactWordSub", unfollowed := true, recurses := true, apart := false, narrowed := true }
def FnExactWordSubUptoSaid : Prop := fnExactWordSubUptoRow.holds Try.pinned (OpenSpec.upto fnExactWordSubSpec)

/-- 'laws.FnExactWordTimes', WHERE WHAT IT READS IS OF BULK AT MOST 1048576: true; the input reads as it did. -/
def fnExactWordTimesUptoRow : OpenClaim := { program := "yteafbfmljhcpiaa", sum := "190abc30112d206fb91e0db613841e879b1b65ec1d35eeb0d2fce76e14f18d5c", func := "loop.example/bitwords/laws.FnExactWordTimes", spec := "fnExactWordTimes", unfollowed := true, recurses := true, apart := false, narrowed := true }
def FnExactWordTimesUptoSaid : Prop := fnExactWordTimesUptoRow.holds Try.pinned (OpenSpec.upto fnExactWordTimesSpec)

/-- 'laws.FnExactWordAnd', WHERE WHAT IT READS IS OF BULK AT MOST 1048576: true; the input reads as it did. -/
def fnExactWordAndUptoRow : OpenClaim := { program := "yteafbfmljhcpiaa", sum := "190abc30112d206fb91e0db613841e879b1b65ec1d35eeb0d2fce76e14f18d5c", func := "loop.example/bitwords/laws.FnExactWordAnd", spec := "fnExactWordAnd", unfollowed := true, recurses := true, apart := false, narrowed := true }
def FnExactWordAndUptoSaid : Prop := fnExactWordAndUptoRow.holds Try.pinned (OpenSpec.upto fnExactWordAndSpec)

/-- 'laws.FnExactWordDown', WHERE WHAT IT READS IS OF BULK AT MOST 1048576: true; the input reads as it did. -/
def fnExactWordDownUptoRow : OpenClaim := { program := "yteafbfmljhcpiaa", sum := "190abc30112d206fb91e0db613841e879b1b65ec1d35eeb0d2fce76e14f18d5c", func := "loop.example/bitwords/laws.FnExactWordDown", spec := "fnExactWordDown", unfollowed := true, recurses := true, apart := false, narrowed := true }
def FnExactWordDownUptoSaid : Prop := fnExactWordDownUptoRow.holds Try.pinned (OpenSpec.upto fnExactWordDownSpec)

/-- 'laws.FnExactWordOr', WHERE WHAT IT READS IS OF BULK AT MOST 1048576: true; the input reads as it did. -/
def fnExactWordOrUptoRow : OpenClaim := { program := "yteafbfmljhcpiaa", sum := "190abc30112d206fb91e0db613841e879b1b65ec1d35eeb0d2fce76e14f18d5c", func := "loop.example/bitwords/laws.FnExactWordOr", spec := "fnExactWordOr", unfollowed := true, recurses := true, apart := false, narrowed := true }
def FnExactWordOrUptoSaid : Prop := fnExactWordOrUptoRow.holds Try.pinned (OpenSpec.upto fnExactWordOrSpec)

/-- 'laws.FnExactWordXor', WHERE WHAT IT READS IS OF BULK AT MOST 1048576: true; the input reads as it did. -/
def fnExactWordXorUptoRow : OpenClaim := { program := "yteafbfmljhcpiaa", sum := "190abc30112d206fb91e0db613841e879b1b65ec1d35eeb0d2fce76e14f18d5c", func := "loop.example/bitwords/laws.FnExactWordXor", spec := "fnExactWordXor", unfollowed := true, recurses := true, apart := false, narrowed := true }
def FnExactWordXorUptoSaid : Prop := fnExactWordXorUptoRow.holds Try.pinned (OpenSpec.upto fnExactWordXorSpec)

/-- 'laws.FnExactLessSigned', WHERE WHAT IT READS IS OF BULK AT MOST 1048576: true; the input reads as it did. -/
def fnExactLessSignedUptoRow : OpenClaim := { program := "yteafbfmljhcpiaa", sum := "190abc30112d206fb91e0db613841e879b1b65ec1d35eeb0d2fce76e14f18d5c", func := "loop.example/bitwords/laws.FnExactLessSigned", spec := "fnExactLessSigned", apart := false, narrowed := true }
def FnExactLessSignedUptoSaid : Prop := fnExactLessSignedUptoRow.holds Try.pinned (OpenSpec.upto fnExactLessSignedSpec)

/-- 'laws.FnExactAddFits', WHERE WHAT IT READS IS OF BULK AT MOST 1048576: true; the input reads as it did. -/
def fnExactAddFitsUptoRow : OpenClaim := { program := "yteafbfmljhcpiaa", sum := "190abc30112d206fb91e0db613841e879b1b65ec1d35eeb0d2fce76e14f18d5c", func := "loop.example/bitwords/laws.FnExactAddFits", spec := "fnExactAddFits", apart := false, narrowed := true }
def FnExactAddFitsUptoSaid : Prop := fnExactAddFitsUptoRow.holds Try.pinned (OpenSpec.upto fnExactAddFitsSpec)

/-- 'laws.FnExactLessByCarry', WHERE WHAT IT READS IS OF BULK AT MOST 1048576: true; the input reads as it did. -/
def fnExactLessByCarryUptoRow : OpenClaim := { program := "yteafbfmljhcpiaa", sum := "190abc30112d206fb91e0db613841e879b1b65ec1d35eeb0d2fce76e14f18d5c", func := "loop.example/bitwords/laws.FnExactLessByCarry", spec := "fnExactLessByCarry", apart := false, narrowed := true }
def FnExactLessByCarryUptoSaid : Prop := fnExactLessByCarryUptoRow.holds Try.pinned (OpenSpec.upto fnExactLessByCarrySpec)

/-- 'laws.FnExactSignedDivide', WHERE WHAT IT READS IS OF BULK AT MOST 1048576: true; the input reads as it did. -/
def fnExactSignedDivideUptoRow : OpenClaim := { program := "yteafbfmljhcpiaa", sum := "190abc30112d206fb91e0db613841e879b1b65ec1d35eeb0d2fce76e14f18d5c", func := "loop.example/bitwords/laws.FnExactSignedDivide", spec := "fnExactSignedDivide", apart := false, narrowed := true }
def FnExactSignedDivideUptoSaid : Prop := fnExactSignedDivideUptoRow.holds Try.pinned (OpenSpec.upto fnExactSignedDivideSpec)

end Rows
end Go.Proofs.Yteafbfmljhcpiaa
