/-
  No cell of these rows narrows 'for every input' (looked for: loops, veiled, ifaces, maps, wideKeys, modest, calm, conditions, laid).
  DERIVED. THE GIVEN ROWS OF THIS SEAT. 12 by the template 'for every input the law returns true; each argument reads behind the call as it read before'; 0 by the template 'total and deterministic' (their statements: YteoalkgpdgoaeaaTotals.lean).
  GIVEN WITH THE SEED: the statements are not yours to turn. If you find one false, say at which input.
  Laid BY PROGRAM, IN A SANDBOX (cutbox-rows.mjs): the forced cells as the released guide's own fill.sh prints them over the translation c61e573245f7428c… (all of the seat's roots in one cut). By AI agents, Wed Nov 11 2026. No macro, syntax, notation, axiom, sorry.
-/
import Derived.Test.YteoalkgpdgoaeaaChecked
import GoSem.Claim
import GoSem.ClaimJoined
import GoSem.ClaimMapViews
import Derived.JoinedTies
import Derived.KernelRfl
namespace Go.Proofs.Yteoalkgpdgoaeaa
/- THE CELL 'sum', in the pinned program and in every row, IS THE sha256 OF THE DUMP (.gsa) THAT YteoalkgpdgoaeaaProg.lean LOADS. Nothing in Lean hashes anything: it is a label: what it is worth is what the hold of that sum in a sandbox is worth. -/
noncomputable def Try.pinned : Pinned := { name := "yteoalkgpdgoaeaa", sum := "c61e573245f7428c09277a56af0c427aa1f032f358eca9bd34c17ca5913167c7", checked := Try.checked }
namespace Rows
def none {H : Type} : Left H := { results := [], args := [] }

/-- 'laws.FnManySum': WHATEVER THE INPUT: true; the input reads as it did. -/
def fnManySumSpec : ChangeSpec := { name := "fnManySum", fn := fun _ => fun
  | [d] => { results := [.lit (.bool true)], args := [d] }
  | _ => none }
def fnManySumRow : OpenClaim := { program := "yteoalkgpdgoaeaa", sum := "c61e573245f7428c09277a56af0c427aa1f032f358eca9bd34c17ca5913167c7", func := "loop.example/bitwords/laws.FnManySum", spec := "fnManySum", unfollowed := true, recurses := true, apart := false }
def FnManySumSaid : Prop := fnManySumRow.holds Try.pinned (OpenSpec.ofChange fnManySumSpec)

/-- ITS FALSE NEIGHBOUR: 'it returns false'. Refute it at one input. -/
def fnManySumWrong : ChangeSpec := { name := "fnManySum", fn := fun _ => fun
  | [d] => { results := [.lit (.bool false)], args := [d] }
  | _ => none }
def FnManySumWrongFalsely : Prop := fnManySumRow.holds Try.pinned (OpenSpec.ofChange fnManySumWrong)

/-- 'laws.FnPrefixSteps': WHATEVER THE INPUT: true; the input reads as it did. -/
def fnPrefixStepsSpec : ChangeSpec := { name := "fnPrefixSteps", fn := fun _ => fun
  | [d] => { results := [.lit (.bool true)], args := [d] }
  | _ => none }
def fnPrefixStepsRow : OpenClaim := { program := "yteoalkgpdgoaeaa", sum := "c61e573245f7428c09277a56af0c427aa1f032f358eca9bd34c17ca5913167c7", func := "loop.example/bitwords/laws.FnPrefixSteps", spec := "fnPrefixSteps", unfollowed := true, recurses := true, apart := false }
def FnPrefixStepsSaid : Prop := fnPrefixStepsRow.holds Try.pinned (OpenSpec.ofChange fnPrefixStepsSpec)

/-- ITS FALSE NEIGHBOUR: 'it returns false'. Refute it at one input. -/
def fnPrefixStepsWrong : ChangeSpec := { name := "fnPrefixSteps", fn := fun _ => fun
  | [d] => { results := [.lit (.bool false)], args := [d] }
  | _ => none }
def FnPrefixStepsWrongFalsely : Prop := fnPrefixStepsRow.holds Try.pinned (OpenSpec.ofChange fnPrefixStepsWrong)

/-- 'laws.FnFastCarries': WHATEVER THE INPUT: true; the input reads as it did. -/
def fnFastCarriesSpec : ChangeSpec := { name := "fnFastCarries", fn := fun _ => fun
  | [d] => { results := [.lit (.bool true)], args := [d] }
  | _ => none }
def fnFastCarriesRow : OpenClaim := { program := "yteoalkgpdgoaeaa", sum := "c61e573245f7428c09277a56af0c427aa1f032f358eca9bd34c17ca5913167c7", func := "loop.example/bitwords/laws.FnFastCarries", spec := "fnFastCarries", unfollowed := true, recurses := true, apart := false }
def FnFastCarriesSaid : Prop := fnFastCarriesRow.holds Try.pinned (OpenSpec.ofChange fnFastCarriesSpec)

/-- ITS FALSE NEIGHBOUR: 'it returns false'. Refute it at one input. -/
def fnFastCarriesWrong : ChangeSpec := { name := "fnFastCarries", fn := fun _ => fun
  | [d] => { results := [.lit (.bool false)], args := [d] }
  | _ => none }
def FnFastCarriesWrongFalsely : Prop := fnFastCarriesRow.holds Try.pinned (OpenSpec.ofChange fnFastCarriesWrong)

/-- 'laws.FnCarryJoin': WHATEVER THE INPUT: true; the input reads as it did. -/
def fnCarryJoinSpec : ChangeSpec := { name := "fnCarryJoin", fn := fun _ => fun
  | [d] => { results := [.lit (.bool true)], args := [d] }
  | _ => none }
def fnCarryJoinRow : OpenClaim := { program := "yteoalkgpdgoaeaa", sum := "c61e573245f7428c09277a56af0c427aa1f032f358eca9bd34c17ca5913167c7", func := "loop.example/bitwords/laws.FnCarryJoin", spec := "fnCarryJoin", unfollowed := true, recurses := true, apart := false }
def FnCarryJoinSaid : Prop := fnCarryJoinRow.holds Try.pinned (OpenSpec.ofChange fnCarryJoinSpec)

/-- ITS FALSE NEIGHBOUR: 'it returns false'. Refute it at one input. -/
def fnCarryJoinWrong : ChangeSpec := { name := "fnCarryJoin", fn := fun _ => fun
  | [d] => { results := [.lit (.bool false)], args := [d] }
  | _ => none }
def FnCarryJoinWrongFalsely : Prop := fnCarryJoinRow.holds Try.pinned (OpenSpec.ofChange fnCarryJoinWrong)

/-- 'laws.FnWordValid': WHATEVER THE INPUT: true; the input reads as it did. -/
def fnWordValidSpec : ChangeSpec := { name := "fnWordValid", fn := fun _ => fun
  | [d] => { results := [.lit (.bool true)], args := [d] }
  | _ => none }
def fnWordValidRow : OpenClaim := { program := "yteoalkgpdgoaeaa", sum := "c61e573245f7428c09277a56af0c427aa1f032f358eca9bd34c17ca5913167c7", func := "loop.example/bitwords/laws.FnWordValid", spec := "fnWordValid", unfollowed := true, recurses := true, apart := false }
def FnWordValidSaid : Prop := fnWordValidRow.holds Try.pinned (OpenSpec.ofChange fnWordValidSpec)

/-- ITS FALSE NEIGHBOUR: 'it returns false'. Refute it at one input. -/
def fnWordValidWrong : ChangeSpec := { name := "fnWordValid", fn := fun _ => fun
  | [d] => { results := [.lit (.bool false)], args := [d] }
  | _ => none }
def FnWordValidWrongFalsely : Prop := fnWordValidRow.holds Try.pinned (OpenSpec.ofChange fnWordValidWrong)

/-- 'laws.FnWordOf': WHATEVER THE INPUT: true; the input reads as it did. -/
def fnWordOfSpec : ChangeSpec := { name := "fnWordOf", fn := fun _ => fun
  | [d] => { results := [.lit (.bool true)], args := [d] }
  | _ => none }
def fnWordOfRow : OpenClaim := { program := "yteoalkgpdgoaeaa", sum := "c61e573245f7428c09277a56af0c427aa1f032f358eca9bd34c17ca5913167c7", func := "loop.example/bitwords/laws.FnWordOf", spec := "fnWordOf", unfollowed := true, recurses := true, apart := false }
def FnWordOfSaid : Prop := fnWordOfRow.holds Try.pinned (OpenSpec.ofChange fnWordOfSpec)

/-- ITS FALSE NEIGHBOUR: 'it returns false'. Refute it at one input. -/
def fnWordOfWrong : ChangeSpec := { name := "fnWordOf", fn := fun _ => fun
  | [d] => { results := [.lit (.bool false)], args := [d] }
  | _ => none }
def FnWordOfWrongFalsely : Prop := fnWordOfRow.holds Try.pinned (OpenSpec.ofChange fnWordOfWrong)

/-- 'laws.FnWordNot': WHATEVER THE INPUT: true; the input reads as it did. -/
def fnWordNotSpec : ChangeSpec := { name := "fnWordNot", fn := fun _ => fun
  | [d] => { results := [.lit (.bool true)], args := [d] }
  | _ => none }
def fnWordNotRow : OpenClaim := { program := "yteoalkgpdgoaeaa", sum := "c61e573245f7428c09277a56af0c427aa1f032f358eca9bd34c17ca5913167c7", func := "loop.example/bitwords/laws.FnWordNot", spec := "fnWordNot", unfollowed := true, recurses := true, apart := false }
def FnWordNotSaid : Prop := fnWordNotRow.holds Try.pinned (OpenSpec.ofChange fnWordNotSpec)

/-- ITS FALSE NEIGHBOUR: 'it returns false'. Refute it at one input. -/
def fnWordNotWrong : ChangeSpec := { name := "fnWordNot", fn := fun _ => fun
  | [d] => { results := [.lit (.bool false)], args := [d] }
  | _ => none }
def FnWordNotWrongFalsely : Prop := fnWordNotRow.holds Try.pinned (OpenSpec.ofChange fnWordNotWrong)

/-- 'laws.FnWordRight': WHATEVER THE INPUT: true; the input reads as it did. -/
def fnWordRightSpec : ChangeSpec := { name := "fnWordRight", fn := fun _ => fun
  | [d] => { results := [.lit (.bool true)], args := [d] }
  | _ => none }
def fnWordRightRow : OpenClaim := { program := "yteoalkgpdgoaeaa", sum := "c61e573245f7428c09277a56af0c427aa1f032f358eca9bd34c17ca5913167c7", func := "loop.example/bitwords/laws.FnWordRight", spec := "fnWordRight", unfollowed := true, recurses := true, apart := false }
def FnWordRightSaid : Prop := fnWordRightRow.holds Try.pinned (OpenSpec.ofChange fnWordRightSpec)

/-- ITS FALSE NEIGHBOUR: 'it returns false'. Refute it at one input. -/
def fnWordRightWrong : ChangeSpec := { name := "fnWordRight", fn := fun _ => fun
  | [d] => { results := [.lit (.bool false)], args := [d] }
  | _ => none }
def FnWordRightWrongFalsely : Prop := fnWordRightRow.holds Try.pinned (OpenSpec.ofChange fnWordRightWrong)

/-- 'laws.FnWordSub': WHATEVER THE INPUT: true; the input reads as it did. -/
def fnWordSubSpec : ChangeSpec := { name := "fnWordSub", fn := fun _ => fun
  | [d] => { results := [.lit (.bool true)], args := [d] }
  | _ => none }
def fnWordSubRow : OpenClaim := { program := "yteoalkgpdgoaeaa", sum := "c61e573245f7428c09277a56af0c427aa1f032f358eca9bd34c17ca5913167c7", func := "loop.example/bitwords/laws.FnWordSub", spec := "fnWordSub", unfollowed := true, recurses := true, apart := false }
def FnWordSubSaid : Prop := fnWordSubRow.holds Try.pinned (OpenSpec.ofChange fnWordSubSpec)

/-- ITS FALSE NEIGHBOUR: 'it returns false'. Refute it at one input. -/
def fnWordSubWrong : ChangeSpec := { name := "fnWordSub", fn := fun _ => fun
  | [d] => { results := [.lit (.bool false)], args := [d] }
  | _ => none }
def FnWordSubWrongFalsely : Prop := fnWordSubRow.holds Try.pinned (OpenSpec.ofChange fnWordSubWrong)

/-- 'laws.FnWordAnd': WHATEVER THE INPUT: true; the input reads as it did. -/
def fnWordAndSpec : ChangeSpec := { name := "fnWordAnd", fn := fun _ => fun
  | [d] => { results := [.lit (.bool true)], args := [d] }
  | _ => none }
def fnWordAndRow : OpenClaim := { program := "yteoalkgpdgoaeaa", sum := "c61e573245f7428c09277a56af0c427aa1f032f358eca9bd34c17ca5913167c7", func := "loop.example/bitwords/laws.FnWordAnd", spec := "fnWordAnd", unfollowed := true, recurses := true, apart := false }
def FnWordAndSaid : Prop := fnWordAndRow.holds Try.pinned (OpenSpec.ofChange fnWordAndSpec)

/-- ITS FALSE NEIGHBOUR: 'it returns false'. Refute it at one input. -/
def fnWordAndWrong : ChangeSpec := { name := "fnWordAnd", fn := fun _ => fun
  | [d] => { results := [.lit (.bool false)], args := [d] }
  | _ => none }
def FnWordAndWrongFalsely : Prop := fnWordAndRow.holds Try.pinned (OpenSpec.ofChange fnWordAndWrong)

/-- 'laws.FnSignedOf': WHATEVER THE INPUT: true; the input reads as it did. -/
def fnSignedOfSpec : ChangeSpec := { name := "fnSignedOf", fn := fun _ => fun
  | [d] => { results := [.lit (.bool true)], args := [d] }
  | _ => none }
def fnSignedOfRow : OpenClaim := { program := "yteoalkgpdgoaeaa", sum := "c61e573245f7428c09277a56af0c427aa1f032f358eca9bd34c17ca5913167c7", func := "loop.example/bitwords/laws.FnSignedOf", spec := "fnSignedOf", unfollowed := true, recurses := true, apart := false }
def FnSignedOfSaid : Prop := fnSignedOfRow.holds Try.pinned (OpenSpec.ofChange fnSignedOfSpec)

/-- ITS FALSE NEIGHBOUR: 'it returns false'. Refute it at one input. -/
def fnSignedOfWrong : ChangeSpec := { name := "fnSignedOf", fn := fun _ => fun
  | [d] => { results := [.lit (.bool false)], args := [d] }
  | _ => none }
def FnSignedOfWrongFalsely : Prop := fnSignedOfRow.holds Try.pinned (OpenSpec.ofChange fnSignedOfWrong)

/-- 'laws.FnWordAdd': WHATEVER THE INPUT: true; the input reads as it did. -/
def fnWordAddSpec : ChangeSpec := { name := "fnWordAdd", fn := fun _ => fun
  | [d1, d2] => { results := [.lit (.bool true)], args := [d1, d2] }
  | _ => none }
def fnWordAddRow : OpenClaim := { program := "yteoalkgpdgoaeaa", sum := "c61e573245f7428c09277a56af0c427aa1f032f358eca9bd34c17ca5913167c7", func := "loop.example/bitwords/laws.FnWordAdd", spec := "fnWordAdd", unfollowed := true, recurses := true, apart := false }
def FnWordAddSaid : Prop := fnWordAddRow.holds Try.pinned (OpenSpec.ofChange fnWordAddSpec)

/-- ITS FALSE NEIGHBOUR: 'it returns false'. Refute it at one input. -/
def fnWordAddWrong : ChangeSpec := { name := "fnWordAdd", fn := fun _ => fun
  | [d1, d2] => { results := [.lit (.bool false)], args := [d1, d2] }
  | _ => none }
def FnWordAddWrongFalsely : Prop := fnWordAddRow.holds Try.pinned (OpenSpec.ofChange fnWordAddWrong)

/- THE SECOND FORM. 'bulk': how many values and letters a reading holds, each counted each time it is reached (what is shared counts as often as it is met; a slice's spare places count too). A statement '..UptoSaid' is the law's where the arguments, and the package variables that the reading takes, are together of bulk at most 1048576: NARROWER than '..Said'. Prove '..Said' where nothing that the law and all that it calls make is longer than what came in: it says more and counts as full. Else prove '..UptoSaid'. A law counts once. -/
mutual
def uptoBulk {H : Type} : DataW H → Nat
  | .lit (.string bytes) => bytes.length + 1
  | .lit _ => 1
  | .nil => 1
  | .ptr d => uptoBulk d + 1
  | .slice elems spare => uptoBulkAll elems + uptoBulkAll spare + 1
  | .agg parts => uptoBulkAll parts + 1
  | .iface _ d => uptoBulk d + 1
  | .map entries => uptoBulkEntries entries + 1
  | .held _ => 1
def uptoBulkAll {H : Type} : List (DataW H) → Nat
  | [] => 0
  | d :: r => uptoBulk d + uptoBulkAll r
def uptoBulkEntries {H : Type} : List (Lit × DataW H) → Nat
  | [] => 0
  | x :: r => uptoBulkEntry x + uptoBulkEntries r
def uptoBulkEntry {H : Type} : Lit × DataW H → Nat
  | (.string bytes, d) => bytes.length + uptoBulk d + 1
  | (_, d) => uptoBulk d + 1
 end
def uptoSmall : (H : Type) → List (DataW H) → Bool := fun _ ds => decide (uptoBulkAll ds ≤ 1048576)
def OpenSpec.upto (s : _root_.Go.ChangeSpec) : _root_.Go.OpenSpec := { _root_.Go.OpenSpec.ofChange s with cond := some uptoSmall }

/-- 'laws.FnManySum', WHERE WHAT IT READS IS OF BULK AT MOST 1048576: true; the input reads as it did. -/
def fnManySumUptoRow : OpenClaim := { program := "yteoalkgpdgoaeaa", sum := "c61e573245f7428c09277a56af0c427aa1f032f358eca9bd34c17ca5913167c7", func := "loop.example/bitwords/laws.FnManySum", spec := "fnManySum", unfollowed := true, recurses := true, apart := false, narrowed := true }
def FnManySumUptoSaid : Prop := fnManySumUptoRow.holds Try.pinned (OpenSpec.upto fnManySumSpec)

/-- 'laws.FnPrefixSteps', WHERE WHAT IT READS IS OF BULK AT MOST 1048576: true; the input reads as it did. -/
def fnPrefixStepsUptoRow : OpenClaim := { program := "yteoalkgpdgoaeaa", sum := "c61e573245f7428c09277a56af0c427aa1f032f358eca9bd34c17ca5913167c7", func := "loop.example/bitwords/laws.FnPrefixSteps", spec := "fnPrefixSteps", unfollowed := true, recurses := true, apart := false, narrowed := true }
def FnPrefixStepsUptoSaid : Prop := fnPrefixStepsUptoRow.holds Try.pinned (OpenSpec.upto fnPrefixStepsSpec)

/-- 'laws.FnFastCarries', WHERE WHAT IT READS IS OF BULK AT MOST 1048576: true; the input reads as it did. -/
def fnFastCarriesUptoRow : OpenClaim := { program := "yteoalkgpdgoaeaa", sum := "c61e573245f7428c09277a56af0c427aa1f032f358eca9bd34c17ca5913167c7", func := "loop.example/bitwords/laws.FnFastCarries", spec := "fnFastCarries", unfollowed := true, recurses := true, apart := false, narrowed := true }
def FnFastCarriesUptoSaid : Prop := fnFastCarriesUptoRow.holds Try.pinned (OpenSpec.upto fnFastCarriesSpec)

/-- 'laws.FnCarryJoin', WHERE WHAT IT READS IS OF BULK AT MOST 1048576: true; the input reads as it did. -/
def fnCarryJoinUptoRow : OpenClaim := { program := "yteoalkgpdgoaeaa", sum := "c61e573245f7428c09277a56af0c427aa1f032f358eca9bd34c17ca5913167c7", func := "loop.example/bitwords/laws.FnCarryJoin", spec := "fnCarryJoin", unfollowed := true, recurses := true, apart := false, narrowed := true }
def FnCarryJoinUptoSaid : Prop := fnCarryJoinUptoRow.holds Try.pinned (OpenSpec.upto fnCarryJoinSpec)

/-- 'laws.FnWordValid', WHERE WHAT IT READS IS OF BULK AT MOST 1048576: true; the input reads as it did. -/
def fnWordValidUptoRow : OpenClaim := { program := "yteoalkgpdgoaeaa", sum := "c61e573245f7428c09277a56af0c427aa1f032f358eca9bd34c17ca5913167c7", func := "loop.example/bitwords/laws.FnWordValid", spec := "fnWordValid", unfollowed := true, recurses := true, apart := false, narrowed := true }
def FnWordValidUptoSaid : Prop := fnWordValidUptoRow.holds Try.pinned (OpenSpec.upto fnWordValidSpec)

/-- 'laws.FnWordOf', WHERE WHAT IT READS IS OF BULK AT MOST 1048576: true; the input reads as it did. -/
def fnWordOfUptoRow : OpenClaim := { program := "yteoalkgpdgoaeaa", sum := "c61e573245f7428c09277a56af0c427aa1f032f358eca9bd34c17ca5913167c7", func := "loop.example/bitwords/laws.FnWordOf", spec := "fnWordOf", unfollowed := true, recurses := true, apart := false, narrowed := true }
def FnWordOfUptoSaid : Prop := fnWordOfUptoRow.holds Try.pinned (OpenSpec.upto fnWordOfSpec)

/-- 'laws.FnWordNot', WHERE WHAT IT READS IS OF BULK AT MOST 1048576: true; the input reads as it did. -/
def fnWordNotUptoRow : OpenClaim := { program := "yteoalkgpdgoaeaa", sum := "c61e573245f7428c09277a56af0c427aa1f032f358eca9bd34c17ca5913167c7", func := "loop.example/bitwords/laws.FnWordNot", spec := "fnWordNot", unfollowed := true, recurses := true, apart := false, narrowed := true }
def FnWordNotUptoSaid : Prop := fnWordNotUptoRow.holds Try.pinned (OpenSpec.upto fnWordNotSpec)

/-- 'laws.FnWordRight', WHERE WHAT IT READS IS OF BULK AT MOST 1048576: true; the input reads as it did. -/
def fnWordRightUptoRow : OpenClaim := { program := "yteoalkgpdgoaeaa", sum := "c61e573245f7428c09277a56af0c427aa1f032f358eca9bd34c17ca5913167c7", func := "loop.example/bitwords/laws.FnWordRight", spec := "fnWordRight", unfollowed := true, recurses := true, apart := false, narrowed := true }
def FnWordRightUptoSaid : Prop := fnWordRightUptoRow.holds Try.pinned (OpenSpec.upto fnWordRightSpec)

/-- 'laws.FnWordSub', WHERE WHAT IT READS IS OF BULK AT MOST 1048576: true; the input reads as it did. -/
def fnWordSubUptoRow : OpenClaim := { program := "yteoalkgpdgoaeaa", sum := "c61e573245f7428c09277a56af0c427aa1f032f358eca9bd34c17ca5913167c7", func := "loop.example/bitwords/laws.FnWordSub", spec := "fnWordSub", unfollowed := true, recurses := true, apart := false, narrowed := true }
def FnWordSubUptoSaid : Prop := fnWordSubUptoRow.holds Try.pinned (OpenSpec.upto fnWordSubSpec)

/-- 'laws.FnWordAnd', WHERE WHAT IT READS IS OF BULK AT MOST 1048576: true; the input reads as it did. -/
def fnWordAndUptoRow : OpenClaim := { program := "yteoalkgpdgoaeaa", sum := "c61e573245f7428c09277a56af0c427aa1f032f358eca9bd34c17ca5913167c7", func := "loop.example/bitwords/laws.FnWordAnd", spec := "fnWordAnd", unfollowed := true, recurses := true, apart := false, narrowed := true }
def FnWordAndUptoSaid : Prop := fnWordAndUptoRow.holds Try.pinned (OpenSpec.upto fnWordAndSpec)

/-- 'laws.FnSignedOf', WHERE WHAT IT READS IS OF BULK AT MOST 1048576: true; the input reads as it did. -/
def fnSignedOfUptoRow : OpenClaim := { program := "yteoalkgpdgoaeaa", sum := "c61e573245f7428c09277a56af0c427aa1f032f358eca9bd34c17ca5913167c7", func := "loop.example/bitwords/laws.FnSignedOf", spec := "fnSignedOf", unfollowed := true, recurses := true, apart := false, narrowed := true }
def FnSignedOfUptoSaid : Prop := fnSignedOfUptoRow.holds Try.pinned (OpenSpec.upto fnSignedOfSpec)

/-- 'laws.FnWordAdd', WHERE WHAT IT READS IS OF BULK AT MOST 1048576: true; the input reads as it did. -/
def fnWordAddUptoRow : OpenClaim := { program := "yteoalkgpdgoaeaa", sum := "c61e573245f7428c09277a56af0c427aa1f032f358eca9bd34c17ca5913167c7", func := "loop.example/bitwords/laws.FnWordAdd", spec := "fnWordAdd", unfollowed := true, recurses := true, apart := false, narrowed := true }
def FnWordAddUptoSaid : Prop := fnWordAddUptoRow.holds Try.pinned (OpenSpec.upto fnWordAddSpec)

end Rows
end Go.Proofs.Yteoalkgpdgoaeaa
