/-
  No cell of these rows narrows 'for every input' (looked for: loops, veiled, ifaces, maps, wideKeys, modest, calm, conditions, laid).
  DERIVED. THE GIVEN ROWS OF THIS SEAT. 13 by the template 'for every input the law returns true; each argument reads behind the call as it read before'; 0 by the template 'total and deterministic' (their statements: YtnlbomenmnbfpaaTotals.lean).
  GIVEN WITH THE SEED: the statements are not yours to turn. If you find one false, say at which input.
  Laid BY PROGRAM, IN A SANDBOX (cutbox-rows.mjs): the forced cells as the released guide's own fill.sh prints them over the translation 71e11ab5e36b1fa2… (all of the seat's roots in one cut). By AI agents, Wed Nov 11 2026. No macro, syntax, notation, axiom, sorry.
-/
import Derived.Test.YtnlbomenmnbfpaaChecked
import GoSem.Claim
import GoSem.ClaimJoined
import GoSem.ClaimMapViews
import Derived.JoinedTies
import Derived.KernelRfl
namespace Go.Proofs.Ytnlbomenmnbfpaa
/- THE CELL 'sum', in the pinned program and in every row, IS THE sha256 OF THE DUMP (.gsa) THAT YtnlbomenmnbfpaaProg.lean LOADS. Nothing in Lean hashes anything: it is a label: what it is worth is what the hold of that sum in a sandbox is worth. -/
noncomputable def Try.pinned : Pinned := { name := "ytnlbomenmnbfpaa", sum := "71e11ab5e36b1fa289fbcd9f7f7f3c9392f34e1d502d2ed07656b641227e287e", checked := Try.checked }
namespace Rows
def none {H : Type} : Left H := { results := [], args := [] }

/-- 'laws.FnWordOr': WHATEVER THE INPUT: true; the input reads as it did. -/
def fnWordOrSpec : ChangeSpec := { name := "fnWordOr", fn := fun _ => fun
  | [d] => { results := [.lit (.bool true)], args := [d] }
  | _ => none }
def fnWordOrRow : OpenClaim := { program := "ytnlbomenmnbfpaa", sum := "71e11ab5e36b1fa289fbcd9f7f7f3c9392f34e1d502d2ed07656b641227e287e", func := "loop.example/bitwords/laws.FnWordOr", spec := "fnWordOr", unfollowed := true, recurses := true, apart := false }
def FnWordOrSaid : Prop := fnWordOrRow.holds Try.pinned (OpenSpec.ofChange fnWordOrSpec)

/-- ITS FALSE NEIGHBOUR: 'it returns false'. Refute it at one input. -/
def fnWordOrWrong : ChangeSpec := { name := "fnWordOr", fn := fun _ => fun
  | [d] => { results := [.lit (.bool false)], args := [d] }
  | _ => none }
def FnWordOrWrongFalsely : Prop := fnWordOrRow.holds Try.pinned (OpenSpec.ofChange fnWordOrWrong)

/-- 'laws.FnWordTimes': WHATEVER THE INPUT: true; the input reads as it did. -/
def fnWordTimesSpec : ChangeSpec := { name := "fnWordTimes", fn := fun _ => fun
  | [d1, d2] => { results := [.lit (.bool true)], args := [d1, d2] }
  | _ => none }
def fnWordTimesRow : OpenClaim := { program := "ytnlbomenmnbfpaa", sum := "71e11ab5e36b1fa289fbcd9f7f7f3c9392f34e1d502d2ed07656b641227e287e", func := "loop.example/bitwords/laws.FnWordTimes", spec := "fnWordTimes", unfollowed := true, recurses := true, apart := false }
def FnWordTimesSaid : Prop := fnWordTimesRow.holds Try.pinned (OpenSpec.ofChange fnWordTimesSpec)

/-- ITS FALSE NEIGHBOUR: 'it returns false'. Refute it at one input. -/
def fnWordTimesWrong : ChangeSpec := { name := "fnWordTimes", fn := fun _ => fun
  | [d1, d2] => { results := [.lit (.bool false)], args := [d1, d2] }
  | _ => none }
def FnWordTimesWrongFalsely : Prop := fnWordTimesRow.holds Try.pinned (OpenSpec.ofChange fnWordTimesWrong)

/-- 'laws.FnWordTurn': WHATEVER THE INPUT: true; the input reads as it did. -/
def fnWordTurnSpec : ChangeSpec := { name := "fnWordTurn", fn := fun _ => fun
  | [d] => { results := [.lit (.bool true)], args := [d] }
  | _ => none }
def fnWordTurnRow : OpenClaim := { program := "ytnlbomenmnbfpaa", sum := "71e11ab5e36b1fa289fbcd9f7f7f3c9392f34e1d502d2ed07656b641227e287e", func := "loop.example/bitwords/laws.FnWordTurn", spec := "fnWordTurn", unfollowed := true, recurses := true, apart := false }
def FnWordTurnSaid : Prop := fnWordTurnRow.holds Try.pinned (OpenSpec.ofChange fnWordTurnSpec)

/-- ITS FALSE NEIGHBOUR: 'it returns false'. Refute it at one input. -/
def fnWordTurnWrong : ChangeSpec := { name := "fnWordTurn", fn := fun _ => fun
  | [d] => { results := [.lit (.bool false)], args := [d] }
  | _ => none }
def FnWordTurnWrongFalsely : Prop := fnWordTurnRow.holds Try.pinned (OpenSpec.ofChange fnWordTurnWrong)

/-- 'laws.FnWordLeft': WHATEVER THE INPUT: true; the input reads as it did. -/
def fnWordLeftSpec : ChangeSpec := { name := "fnWordLeft", fn := fun _ => fun
  | [d] => { results := [.lit (.bool true)], args := [d] }
  | _ => none }
def fnWordLeftRow : OpenClaim := { program := "ytnlbomenmnbfpaa", sum := "71e11ab5e36b1fa289fbcd9f7f7f3c9392f34e1d502d2ed07656b641227e287e", func := "loop.example/bitwords/laws.FnWordLeft", spec := "fnWordLeft", unfollowed := true, recurses := true, apart := false }
def FnWordLeftSaid : Prop := fnWordLeftRow.holds Try.pinned (OpenSpec.ofChange fnWordLeftSpec)

/-- ITS FALSE NEIGHBOUR: 'it returns false'. Refute it at one input. -/
def fnWordLeftWrong : ChangeSpec := { name := "fnWordLeft", fn := fun _ => fun
  | [d] => { results := [.lit (.bool false)], args := [d] }
  | _ => none }
def FnWordLeftWrongFalsely : Prop := fnWordLeftRow.holds Try.pinned (OpenSpec.ofChange fnWordLeftWrong)

/-- 'laws.FnWordXor': WHATEVER THE INPUT: true; the input reads as it did. -/
def fnWordXorSpec : ChangeSpec := { name := "fnWordXor", fn := fun _ => fun
  | [d] => { results := [.lit (.bool true)], args := [d] }
  | _ => none }
def fnWordXorRow : OpenClaim := { program := "ytnlbomenmnbfpaa", sum := "71e11ab5e36b1fa289fbcd9f7f7f3c9392f34e1d502d2ed07656b641227e287e", func := "loop.example/bitwords/laws.FnWordXor", spec := "fnWordXor", unfollowed := true, recurses := true, apart := false }
def FnWordXorSaid : Prop := fnWordXorRow.holds Try.pinned (OpenSpec.ofChange fnWordXorSpec)

/-- ITS FALSE NEIGHBOUR: 'it returns false'. Refute it at one input. -/
def fnWordXorWrong : ChangeSpec := { name := "fnWordXor", fn := fun _ => fun
  | [d] => { results := [.lit (.bool false)], args := [d] }
  | _ => none }
def FnWordXorWrongFalsely : Prop := fnWordXorRow.holds Try.pinned (OpenSpec.ofChange fnWordXorWrong)

/-- 'laws.FnCarryKinds': WHATEVER THE INPUT: true; the input reads as it did. -/
def fnCarryKindsSpec : ChangeSpec := { name := "fnCarryKinds", fn := fun _ => fun
  | [d] => { results := [.lit (.bool true)], args := [d] }
  | _ => none }
def fnCarryKindsRow : OpenClaim := { program := "ytnlbomenmnbfpaa", sum := "71e11ab5e36b1fa289fbcd9f7f7f3c9392f34e1d502d2ed07656b641227e287e", func := "loop.example/bitwords/laws.FnCarryKinds", spec := "fnCarryKinds", unfollowed := true, recurses := true, apart := false }
def FnCarryKindsSaid : Prop := fnCarryKindsRow.holds Try.pinned (OpenSpec.ofChange fnCarryKindsSpec)

/-- ITS FALSE NEIGHBOUR: 'it returns false'. Refute it at one input. -/
def fnCarryKindsWrong : ChangeSpec := { name := "fnCarryKinds", fn := fun _ => fun
  | [d] => { results := [.lit (.bool false)], args := [d] }
  | _ => none }
def FnCarryKindsWrongFalsely : Prop := fnCarryKindsRow.holds Try.pinned (OpenSpec.ofChange fnCarryKindsWrong)

/-- 'laws.FnThreeToTwo': WHATEVER THE INPUT: true; the input reads as it did. -/
def fnThreeToTwoSpec : ChangeSpec := { name := "fnThreeToTwo", fn := fun _ => fun
  | [d] => { results := [.lit (.bool true)], args := [d] }
  | _ => none }
def fnThreeToTwoRow : OpenClaim := { program := "ytnlbomenmnbfpaa", sum := "71e11ab5e36b1fa289fbcd9f7f7f3c9392f34e1d502d2ed07656b641227e287e", func := "loop.example/bitwords/laws.FnThreeToTwo", spec := "fnThreeToTwo", unfollowed := true, recurses := true, apart := false }
def FnThreeToTwoSaid : Prop := fnThreeToTwoRow.holds Try.pinned (OpenSpec.ofChange fnThreeToTwoSpec)

/-- ITS FALSE NEIGHBOUR: 'it returns false'. Refute it at one input. -/
def fnThreeToTwoWrong : ChangeSpec := { name := "fnThreeToTwo", fn := fun _ => fun
  | [d] => { results := [.lit (.bool false)], args := [d] }
  | _ => none }
def FnThreeToTwoWrongFalsely : Prop := fnThreeToTwoRow.holds Try.pinned (OpenSpec.ofChange fnThreeToTwoWrong)

/-- 'laws.FnLessByCarry': WHATEVER THE INPUT: true; the input reads as it did. -/
def fnLessByCarrySpec : ChangeSpec := { name := "fnLessByCarry", fn := fun _ => fun
  | [d] => { results := [.lit (.bool true)], args := [d] }
  | _ => none }
def fnLessByCarryRow : OpenClaim := { program := "ytnlbomenmnbfpaa", sum := "71e11ab5e36b1fa289fbcd9f7f7f3c9392f34e1d502d2ed07656b641227e287e", func := "loop.example/bitwords/laws.FnLessByCarry", spec := "fnLessByCarry", unfollowed := true, recurses := true, apart := false }
def FnLessByCarrySaid : Prop := fnLessByCarryRow.holds Try.pinned (OpenSpec.ofChange fnLessByCarrySpec)

/-- ITS FALSE NEIGHBOUR: 'it returns false'. Refute it at one input. -/
def fnLessByCarryWrong : ChangeSpec := { name := "fnLessByCarry", fn := fun _ => fun
  | [d] => { results := [.lit (.bool false)], args := [d] }
  | _ => none }
def FnLessByCarryWrongFalsely : Prop := fnLessByCarryRow.holds Try.pinned (OpenSpec.ofChange fnLessByCarryWrong)

/-- 'laws.FnWordDown': WHATEVER THE INPUT: true; the input reads as it did. -/
def fnWordDownSpec : ChangeSpec := { name := "fnWordDown", fn := fun _ => fun
  | [d] => { results := [.lit (.bool true)], args := [d] }
  | _ => none }
def fnWordDownRow : OpenClaim := { program := "ytnlbomenmnbfpaa", sum := "71e11ab5e36b1fa289fbcd9f7f7f3c9392f34e1d502d2ed07656b641227e287e", func := "loop.example/bitwords/laws.FnWordDown", spec := "fnWordDown", unfollowed := true, recurses := true, apart := false }
def FnWordDownSaid : Prop := fnWordDownRow.holds Try.pinned (OpenSpec.ofChange fnWordDownSpec)

/-- ITS FALSE NEIGHBOUR: 'it returns false'. Refute it at one input. -/
def fnWordDownWrong : ChangeSpec := { name := "fnWordDown", fn := fun _ => fun
  | [d] => { results := [.lit (.bool false)], args := [d] }
  | _ => none }
def FnWordDownWrongFalsely : Prop := fnWordDownRow.holds Try.pinned (OpenSpec.ofChange fnWordDownWrong)

/-- 'laws.FnAddFits': WHATEVER THE INPUT: true; the input reads as it did. -/
def fnAddFitsSpec : ChangeSpec := { name := "fnAddFits", fn := fun _ => fun
  | [d] => { results := [.lit (.bool true)], args := [d] }
  | _ => none }
def fnAddFitsRow : OpenClaim := { program := "ytnlbomenmnbfpaa", sum := "71e11ab5e36b1fa289fbcd9f7f7f3c9392f34e1d502d2ed07656b641227e287e", func := "loop.example/bitwords/laws.FnAddFits", spec := "fnAddFits", unfollowed := true, recurses := true, apart := false }
def FnAddFitsSaid : Prop := fnAddFitsRow.holds Try.pinned (OpenSpec.ofChange fnAddFitsSpec)

/-- ITS FALSE NEIGHBOUR: 'it returns false'. Refute it at one input. -/
def fnAddFitsWrong : ChangeSpec := { name := "fnAddFits", fn := fun _ => fun
  | [d] => { results := [.lit (.bool false)], args := [d] }
  | _ => none }
def FnAddFitsWrongFalsely : Prop := fnAddFitsRow.holds Try.pinned (OpenSpec.ofChange fnAddFitsWrong)

/-- 'laws.FnCarriesOf': WHATEVER THE INPUT: true; the input reads as it did. -/
def fnCarriesOfSpec : ChangeSpec := { name := "fnCarriesOf", fn := fun _ => fun
  | [d] => { results := [.lit (.bool true)], args := [d] }
  | _ => none }
def fnCarriesOfRow : OpenClaim := { program := "ytnlbomenmnbfpaa", sum := "71e11ab5e36b1fa289fbcd9f7f7f3c9392f34e1d502d2ed07656b641227e287e", func := "loop.example/bitwords/laws.FnCarriesOf", spec := "fnCarriesOf", unfollowed := true, recurses := true, apart := false }
def FnCarriesOfSaid : Prop := fnCarriesOfRow.holds Try.pinned (OpenSpec.ofChange fnCarriesOfSpec)

/-- ITS FALSE NEIGHBOUR: 'it returns false'. Refute it at one input. -/
def fnCarriesOfWrong : ChangeSpec := { name := "fnCarriesOf", fn := fun _ => fun
  | [d] => { results := [.lit (.bool false)], args := [d] }
  | _ => none }
def FnCarriesOfWrongFalsely : Prop := fnCarriesOfRow.holds Try.pinned (OpenSpec.ofChange fnCarriesOfWrong)

/-- 'laws.FnLessSigned': WHATEVER THE INPUT: true; the input reads as it did. -/
def fnLessSignedSpec : ChangeSpec := { name := "fnLessSigned", fn := fun _ => fun
  | [d] => { results := [.lit (.bool true)], args := [d] }
  | _ => none }
def fnLessSignedRow : OpenClaim := { program := "ytnlbomenmnbfpaa", sum := "71e11ab5e36b1fa289fbcd9f7f7f3c9392f34e1d502d2ed07656b641227e287e", func := "loop.example/bitwords/laws.FnLessSigned", spec := "fnLessSigned", unfollowed := true, recurses := true, apart := false }
def FnLessSignedSaid : Prop := fnLessSignedRow.holds Try.pinned (OpenSpec.ofChange fnLessSignedSpec)

/-- ITS FALSE NEIGHBOUR: 'it returns false'. Refute it at one input. -/
def fnLessSignedWrong : ChangeSpec := { name := "fnLessSigned", fn := fun _ => fun
  | [d] => { results := [.lit (.bool false)], args := [d] }
  | _ => none }
def FnLessSignedWrongFalsely : Prop := fnLessSignedRow.holds Try.pinned (OpenSpec.ofChange fnLessSignedWrong)

/-- 'laws.FnCarrySum': WHATEVER THE INPUT: true; the input reads as it did. -/
def fnCarrySumSpec : ChangeSpec := { name := "fnCarrySum", fn := fun _ => fun
  | [d] => { results := [.lit (.bool true)], args := [d] }
  | _ => none }
def fnCarrySumRow : OpenClaim := { program := "ytnlbomenmnbfpaa", sum := "71e11ab5e36b1fa289fbcd9f7f7f3c9392f34e1d502d2ed07656b641227e287e", func := "loop.example/bitwords/laws.FnCarrySum", spec := "fnCarrySum", unfollowed := true, recurses := true, apart := false }
def FnCarrySumSaid : Prop := fnCarrySumRow.holds Try.pinned (OpenSpec.ofChange fnCarrySumSpec)

/-- ITS FALSE NEIGHBOUR: 'it returns false'. Refute it at one input. -/
def fnCarrySumWrong : ChangeSpec := { name := "fnCarrySum", fn := fun _ => fun
  | [d] => { results := [.lit (.bool false)], args := [d] }
  | _ => none }
def FnCarrySumWrongFalsely : Prop := fnCarrySumRow.holds Try.pinned (OpenSpec.ofChange fnCarrySumWrong)

/- THE SECOND FORM. 'bulk': how many values and letters a reading holds, each counted each time it is reached (what is shared counts as often as it is met; a slice's spare places count too). A statement '..UptoSaid' is the law's where the arguments, and the package variables that the reading takes, are together of bulk at most 1048576: NARROWER than '..Said'. Prove '..Said' where nothing that the law and all that it calls make is longer than what came in: it says more and counts as full. Else prove '..UptoSaid'. A law counts once. -/
mutual
def uptoBulk {H : Type} : DataW H → Nat
  | .lit (.string bytes) => bytes.length + 1
  | .lit _ => 1
  | .nil => 1
  | .ptr d => uptoBulk d + 1
  | .slice elems spare => uptoBulkAll elems + uptoBulkAll spare + 1
  | .agg parts => uptoBulkAll parts + 1
  | .iface _ d => uptoBulk d + 1
  | .map entries => uptoBulkEntries entries + 1
  | .held _ => 1
def uptoBulkAll {H : Type} : List (DataW H) → Nat
  | [] => 0
  | d :: r => uptoBulk d + uptoBulkAll r
def uptoBulkEntries {H : Type} : List (Lit × DataW H) → Nat
  | [] => 0
  | x :: r => uptoBulkEntry x + uptoBulkEntries r
def uptoBulkEntry {H : Type} : Lit × DataW H → Nat
  | (.string bytes, d) => bytes.length + uptoBulk d + 1
  | (_, d) => uptoBulk d + 1
 end
def uptoSmall : (H : Type) → List (DataW H) → Bool := fun _ ds => decide (uptoBulkAll ds ≤ 1048576)
def OpenSpec.upto (s : _root_.Go.ChangeSpec) : _root_.Go.OpenSpec := { _root_.Go.OpenSpec.ofChange s with cond := some uptoSmall }

/-- 'laws.FnWordOr', WHERE WHAT IT READS IS OF BULK AT MOST 1048576: true; the input reads as it did. -/
def fnWordOrUptoRow : OpenClaim := { program := "ytnlbomenmnbfpaa", sum := "71e11ab5e36b1fa289fbcd9f7f7f3c9392f34e1d502d2ed07656b641227e287e", func := "loop.example/bitwords/laws.FnWordOr", spec := "fnWordOr", unfollowed := true, recurses := true, apart := false, narrowed := true }
def FnWordOrUptoSaid : Prop := fnWordOrUptoRow.holds Try.pinned (OpenSpec.upto fnWordOrSpec)

/-- 'laws.FnWordTimes', WHERE WHAT IT READS IS OF BULK AT MOST 1048576: true; the input reads as it did. -/
def fnWordTimesUptoRow : OpenClaim := { program := "ytnlbomenmnbfpaa", sum := "71e11ab5e36b1fa289fbcd9f7f7f3c9392f34e1d502d2ed07656b641227e287e", func := "loop.example/bitwords/laws.FnWordTimes", spec := "fnWordTimes", unfollowed := true, recurses := true, apart := false, narrowed := true }
def FnWordTimesUptoSaid : Prop := fnWordTimesUptoRow.holds Try.pinned (OpenSpec.upto fnWordTimesSpec)

/-- 'laws.FnWordTurn', WHERE WHAT IT READS IS OF BULK AT MOST 1048576: true; the input reads as it did. -/
def fnWordTurnUptoRow : OpenClaim := { program := "ytnlbomenmnbfpaa", sum := "71e11ab5e36b1fa289fbcd9f7f7f3c9392f34e1d502d2ed07656b641227e287e", func := "loop.example/bitwords/laws.FnWordTurn", spec := "fnWordTurn", unfollowed := true, recurses := true, apart := false, narrowed := true }
def FnWordTurnUptoSaid : Prop := fnWordTurnUptoRow.holds Try.pinned (OpenSpec.upto fnWordTurnSpec)

/-- 'laws.FnWordLeft', WHERE WHAT IT READS IS OF BULK AT MOST 1048576: true; the input reads as it did. -/
def fnWordLeftUptoRow : OpenClaim := { program := "ytnlbomenmnbfpaa", sum := "71e11ab5e36b1fa289fbcd9f7f7f3c9392f34e1d502d2ed07656b641227e287e", func := "loop.example/bitwords/laws.FnWordLeft", spec := "fnWordLeft", unfollowed := true, recurses := true, apart := false, narrowed := true }
def FnWordLeftUptoSaid : Prop := fnWordLeftUptoRow.holds Try.pinned (OpenSpec.upto fnWordLeftSpec)

/-- 'laws.FnWordXor', WHERE WHAT IT READS IS OF BULK AT MOST 1048576: true; the input reads as it did. -/
def fnWordXorUptoRow : OpenClaim := { program := "ytnlbomenmnbfpaa", sum := "71e11ab5e36b1fa289fbcd9f7f7f3c9392f34e1d502d2ed07656b641227e287e", func := "loop.example/bitwords/laws.FnWordXor", spec := "fnWordXor", unfollowed := true, recurses := true, apart := false, narrowed := true }
def FnWordXorUptoSaid : Prop := fnWordXorUptoRow.holds Try.pinned (OpenSpec.upto fnWordXorSpec)

/-- 'laws.FnCarryKinds', WHERE WHAT IT READS IS OF BULK AT MOST 1048576: true; the input reads as it did. -/
def fnCarryKindsUptoRow : OpenClaim := { program := "ytnlbomenmnbfpaa", sum := "71e11ab5e36b1fa289fbcd9f7f7f3c9392f34e1d502d2ed07656b641227e287e", func := "loop.example/bitwords/laws.FnCarryKinds", spec := "fnCarryKinds", unfollowed := true, recurses := true, apart := false, narrowed := true }
def FnCarryKindsUptoSaid : Prop := fnCarryKindsUptoRow.holds Try.pinned (OpenSpec.upto fnCarryKindsSpec)

/-- 'laws.FnThreeToTwo', WHERE WHAT IT READS IS OF BULK AT MOST 1048576: true; the input reads as it did. -/
def fnThreeToTwoUptoRow : OpenClaim := { program := "ytnlbomenmnbfpaa", sum := "71e11ab5e36b1fa289fbcd9f7f7f3c9392f34e1d502d2ed07656b641227e287e", func := "loop.example/bitwords/laws.FnThreeToTwo", spec := "fnThreeToTwo", unfollowed := true, recurses := true, apart := false, narrowed := true }
def FnThreeToTwoUptoSaid : Prop := fnThreeToTwoUptoRow.holds Try.pinned (OpenSpec.upto fnThreeToTwoSpec)

/-- 'laws.FnLessByCarry', WHERE WHAT IT READS IS OF BULK AT MOST 1048576: true; the input reads as it did. -/
def fnLessByCarryUptoRow : OpenClaim := { program := "ytnlbomenmnbfpaa", sum := "71e11ab5e36b1fa289fbcd9f7f7f3c9392f34e1d502d2ed07656b641227e287e", func := "loop.example/bitwords/laws.FnLessByCarry", spec := "fnLessByCarry", unfollowed := true, recurses := true, apart := false, narrowed := true }
def FnLessByCarryUptoSaid : Prop := fnLessByCarryUptoRow.holds Try.pinned (OpenSpec.upto fnLessByCarrySpec)

/-- 'laws.FnWordDown', WHERE WHAT IT READS IS OF BULK AT MOST 1048576: true; the input reads as it did. -/
def fnWordDownUptoRow : OpenClaim := { program := "ytnlbomenmnbfpaa", sum := "71e11ab5e36b1fa289fbcd9f7f7f3c9392f34e1d502d2ed07656b641227e287e", func := "loop.example/bitwords/laws.FnWordDown", spec := "fnWordDown", unfollowed := true, recurses := true, apart := false, narrowed := true }
def FnWordDownUptoSaid : Prop := fnWordDownUptoRow.holds Try.pinned (OpenSpec.upto fnWordDownSpec)

/-- 'laws.FnAddFits', WHERE WHAT IT READS IS OF BULK AT MOST 1048576: true; the input reads as it did. -/
def fnAddFitsUptoRow : OpenClaim := { program := "ytnlbomenmnbfpaa", sum := "71e11ab5e36b1fa289fbcd9f7f7f3c9392f34e1d502d2ed07656b641227e287e", func := "loop.example/bitwords/laws.FnAddFits", spec := "fnAddFits", unfollowed := true, recurses := true, apart := false, narrowed := true }
def FnAddFitsUptoSaid : Prop := fnAddFitsUptoRow.holds Try.pinned (OpenSpec.upto fnAddFitsSpec)

/-- 'laws.FnCarriesOf', WHERE WHAT IT READS IS OF BULK AT MOST 1048576: true; the input reads as it did. -/
def fnCarriesOfUptoRow : OpenClaim := { program := "ytnlbomenmnbfpaa", sum := "71e11ab5e36b1fa289fbcd9f7f7f3c9392f34e1d502d2ed07656b641227e287e", func := "loop.example/bitwords/laws.FnCarriesOf", spec := "fnCarriesOf", unfollowed := true, recurses := true, apart := false, narrowed := true }
def FnCarriesOfUptoSaid : Prop := fnCarriesOfUptoRow.holds Try.pinned (OpenSpec.upto fnCarriesOfSpec)

/-- 'laws.FnLessSigned', WHERE WHAT IT READS IS OF BULK AT MOST 1048576: true; the input reads as it did. -/
def fnLessSignedUptoRow : OpenClaim := { program := "ytnlbomenmnbfpaa", sum := "71e11ab5e36b1fa289fbcd9f7f7f3c9392f34e1d502d2ed07656b641227e287e", func := "loop.example/bitwords/laws.FnLessSigned", spec := "fnLessSigned", unfollowed := true, recurses := true, apart := false, narrowed := true }
def FnLessSignedUptoSaid : Prop := fnLessSignedUptoRow.holds Try.pinned (OpenSpec.upto fnLessSignedSpec)

/-- 'laws.FnCarrySum', WHERE WHAT IT READS IS OF BULK AT MOST 1048576: true; the input reads as it did. -/
def fnCarrySumUptoRow : OpenClaim := { program := "ytnlbomenmnbfpaa", sum := "71e11ab5e36b1fa289fbcd9f7f7f3c9392f34e1d502d2ed07656b641227e287e", func := "loop.example/bitwords/laws.FnCarrySum", spec := "fnCarrySum", unfollowed := true, recurses := true, apart := false, narrowed := true }
def FnCarrySumUptoSaid : Prop := fnCarrySumUptoRow.holds Try.pinned (OpenSpec.upto fnCarrySumSpec)

end Rows
end Go.Proofs.Ytnlbomenmnbfpaa
