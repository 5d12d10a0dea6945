/-
  No cell of these rows narrows 'for every input' (looked for: loops, veiled, ifaces, maps, wideKeys, modest, calm, conditions, laid).
  DERIVED. THE GIVEN ROWS OF THIS SEAT. 12 by the template 'for every input the law returns true; each argument reads behind the call as it read before'; 0 by the template 'total and deterministic' (their statements: YthhehbcnpmjicaaTotals.lean).
  GIVEN WITH THE SEED: the statements are not yours to turn. If you find one false, say at which input.
  Laid BY PROGRAM, IN A SANDBOX (cutbox-rows.mjs): the forced cells as the released guide's own fill.sh prints them over the translation eb921948838e8a40… (all of the seat's roots in one cut). By AI agents, Wed Nov 11 2026. No macro, syntax, notation, axiom, sorry.
-/
import Derived.Test.YthhehbcnpmjicaaChecked
import GoSem.Claim
import GoSem.ClaimJoined
import GoSem.ClaimMapViews
import Derived.JoinedTies
import Derived.KernelRfl
namespace Go.Proofs.Ythhehbcnpmjicaa
/- THE CELL 'sum', in the pinned program and in every row, IS THE sha256 OF THE DUMP (.gsa) THAT YthhehbcnpmjicaaProg.lean LOADS. Nothing in Lean hashes anything: it is a label: what it is worth is what the hold of that sum in a sandbox is worth. -/
noncomputable def Try.pinned : Pinned := { name := "ythhehbcnpmjicaa", sum := "eb921948838e8a40571b530f15f3228332b035890afb4b0299201d161ef490c4", checked := Try.checked }
namespace Rows
def none {H : Type} : Left H := { results := [], args := [] }

/-- 'laws.FnExactSignedHigh': WHATEVER THE INPUT: true; the input reads as it did. -/
def fnExactSignedHighSpec : ChangeSpec := { name := "fnExactSignedHigh", fn := fun _ => fun
  | [d1, d2, d3] => { results := [.lit (.bool true)], args := [d1, d2, d3] }
  | _ => none }
def fnExactSignedHighRow : OpenClaim := { program := "ythhehbcnpmjicaa", sum := "eb921948838e8a40571b530f15f3228332b035890afb4b0299201d161ef490c4", func := "loop.example/bitwords/laws.FnExactSignedHigh", spec := "fnExactSignedHigh", unfollowed := true, recurses := true, apart := false }
def FnExactSignedHighSaid : Prop := fnExactSignedHighRow.holds Try.pinned (OpenSpec.ofChange fnExactSignedHighSpec)

/-- ITS FALSE NEIGHBOUR: 'it returns false'. Refute it at one input. -/
def fnExactSignedHighWrong : ChangeSpec := { name := "fnExactSignedHigh", fn := fun _ => fun
  | [d1, d2, d3] => { results := [.lit (.bool false)], args := [d1, d2, d3] }
  | _ => none }
def FnExactSignedHighWrongFalsely : Prop := fnExactSignedHighRow.holds Try.pinned (OpenSpec.ofChange fnExactSignedHighWrong)

/-- 'laws.FnExactThreeToTwo': WHATEVER THE INPUT: true; the input reads as it did. -/
def fnExactThreeToTwoSpec : ChangeSpec := { name := "fnExactThreeToTwo", fn := fun _ => fun
  | [d1, d2, d3, d4] => { results := [.lit (.bool true)], args := [d1, d2, d3, d4] }
  | _ => none }
def fnExactThreeToTwoRow : OpenClaim := { program := "ythhehbcnpmjicaa", sum := "eb921948838e8a40571b530f15f3228332b035890afb4b0299201d161ef490c4", func := "loop.example/bitwords/laws.FnExactThreeToTwo", spec := "fnExactThreeToTwo", apart := false }
def FnExactThreeToTwoSaid : Prop := fnExactThreeToTwoRow.holds Try.pinned (OpenSpec.ofChange fnExactThreeToTwoSpec)

/-- ITS FALSE NEIGHBOUR: 'it returns false'. Refute it at one input. -/
def fnExactThreeToTwoWrong : ChangeSpec := { name := "fnExactThreeToTwo", fn := fun _ => fun
  | [d1, d2, d3, d4] => { results := [.lit (.bool false)], args := [d1, d2, d3, d4] }
  | _ => none }
def FnExactThreeToTwoWrongFalsely : Prop := fnExactThreeToTwoRow.holds Try.pinned (OpenSpec.ofChange fnExactThreeToTwoWrong)

/-- 'laws.FnExactDivideSigns': WHATEVER THE INPUT: true; the input reads as it did. -/
def fnExactDivideSignsSpec : ChangeSpec := { name := "fnExactDivideSigns", fn := fun _ => fun
  | [d1, d2, d3] => { results := [.lit (.bool true)], args := [d1, d2, d3] }
  | _ => none }
def fnExactDivideSignsRow : OpenClaim := { program := "ythhehbcnpmjicaa", sum := "eb921948838e8a40571b530f15f3228332b035890afb4b0299201d161ef490c4", func := "loop.example/bitwords/laws.FnExactDivideSigns", spec := "fnExactDivideSigns", apart := false }
def FnExactDivideSignsSaid : Prop := fnExactDivideSignsRow.holds Try.pinned (OpenSpec.ofChange fnExactDivideSignsSpec)

/-- ITS FALSE NEIGHBOUR: 'it returns false'. Refute it at one input. -/
def fnExactDivideSignsWrong : ChangeSpec := { name := "fnExactDivideSigns", fn := fun _ => fun
  | [d1, d2, d3] => { results := [.lit (.bool false)], args := [d1, d2, d3] }
  | _ => none }
def FnExactDivideSignsWrongFalsely : Prop := fnExactDivideSignsRow.holds Try.pinned (OpenSpec.ofChange fnExactDivideSignsWrong)

/-- 'laws.FnExactCarryKinds': WHATEVER THE INPUT: true; the input reads as it did. -/
def fnExactCarryKindsSpec : ChangeSpec := { name := "fnExactCarryKinds", fn := fun _ => fun
  | [d1, d2, d3] => { results := [.lit (.bool true)], args := [d1, d2, d3] }
  | _ => none }
def fnExactCarryKindsRow : OpenClaim := { program := "ythhehbcnpmjicaa", sum := "eb921948838e8a40571b530f15f3228332b035890afb4b0299201d161ef490c4", func := "loop.example/bitwords/laws.FnExactCarryKinds", spec := "fnExactCarryKinds", apart := false }
def FnExactCarryKindsSaid : Prop := fnExactCarryKindsRow.holds Try.pinned (OpenSpec.ofChange fnExactCarryKindsSpec)

/-- ITS FALSE NEIGHBOUR: 'it returns false'. Refute it at one input. -/
def fnExactCarryKindsWrong : ChangeSpec := { name := "fnExactCarryKinds", fn := fun _ => fun
  | [d1, d2, d3] => { results := [.lit (.bool false)], args := [d1, d2, d3] }
  | _ => none }
def FnExactCarryKindsWrongFalsely : Prop := fnExactCarryKindsRow.holds Try.pinned (OpenSpec.ofChange fnExactCarryKindsWrong)

/-- 'laws.FnExactCarrySum': WHATEVER THE INPUT: true; the input reads as it did. -/
def fnExactCarrySumSpec : ChangeSpec := { name := "fnExactCarrySum", fn := fun _ => fun
  | [d1, d2, d3, d4] => { results := [.lit (.bool true)], args := [d1, d2, d3, d4] }
  | _ => none }
def fnExactCarrySumRow : OpenClaim := { program := "ythhehbcnpmjicaa", sum := "eb921948838e8a40571b530f15f3228332b035890afb4b0299201d161ef490c4", func := "loop.example/bitwords/laws.FnExactCarrySum", spec := "fnExactCarrySum", apart := false }
def FnExactCarrySumSaid : Prop := fnExactCarrySumRow.holds Try.pinned (OpenSpec.ofChange fnExactCarrySumSpec)

/-- ITS FALSE NEIGHBOUR: 'it returns false'. Refute it at one input. -/
def fnExactCarrySumWrong : ChangeSpec := { name := "fnExactCarrySum", fn := fun _ => fun
  | [d1, d2, d3, d4] => { results := [.lit (.bool false)], args := [d1, d2, d3, d4] }
  | _ => none }
def FnExactCarrySumWrongFalsely : Prop := fnExactCarrySumRow.holds Try.pinned (OpenSpec.ofChange fnExactCarrySumWrong)

/-- 'laws.FnExactMovedWords': WHATEVER THE INPUT: true; the input reads as it did. -/
def fnExactMovedWordsSpec : ChangeSpec := { name := "fnExactMovedWords", fn := fun _ => fun
  | [d1, d2, d3] => { results := [.lit (.bool true)], args := [d1, d2, d3] }
  | _ => none }
def fnExactMovedWordsRow : OpenClaim := { program := "ythhehbcnpmjicaa", sum := "eb921948838e8a40571b530f15f3228332b035890afb4b0299201d161ef490c4", func := "loop.example/bitwords/laws.FnExactMovedWords", spec := "fnExactMovedWords", apart := false }
def FnExactMovedWordsSaid : Prop := fnExactMovedWordsRow.holds Try.pinned (OpenSpec.ofChange fnExactMovedWordsSpec)

/-- ITS FALSE NEIGHBOUR: 'it returns false'. Refute it at one input. -/
def fnExactMovedWordsWrong : ChangeSpec := { name := "fnExactMovedWords", fn := fun _ => fun
  | [d1, d2, d3] => { results := [.lit (.bool false)], args := [d1, d2, d3] }
  | _ => none }
def FnExactMovedWordsWrongFalsely : Prop := fnExactMovedWordsRow.holds Try.pinned (OpenSpec.ofChange fnExactMovedWordsWrong)

/-- 'laws.FnExactCarriesOf': WHATEVER THE INPUT: true; the input reads as it did. -/
def fnExactCarriesOfSpec : ChangeSpec := { name := "fnExactCarriesOf", fn := fun _ => fun
  | [d1, d2, d3, d4] => { results := [.lit (.bool true)], args := [d1, d2, d3, d4] }
  | _ => none }
def fnExactCarriesOfRow : OpenClaim := { program := "ythhehbcnpmjicaa", sum := "eb921948838e8a40571b530f15f3228332b035890afb4b0299201d161ef490c4", func := "loop.example/bitwords/laws.FnExactCarriesOf", spec := "fnExactCarriesOf", apart := false }
def FnExactCarriesOfSaid : Prop := fnExactCarriesOfRow.holds Try.pinned (OpenSpec.ofChange fnExactCarriesOfSpec)

/-- ITS FALSE NEIGHBOUR: 'it returns false'. Refute it at one input. -/
def fnExactCarriesOfWrong : ChangeSpec := { name := "fnExactCarriesOf", fn := fun _ => fun
  | [d1, d2, d3, d4] => { results := [.lit (.bool false)], args := [d1, d2, d3, d4] }
  | _ => none }
def FnExactCarriesOfWrongFalsely : Prop := fnExactCarriesOfRow.holds Try.pinned (OpenSpec.ofChange fnExactCarriesOfWrong)

/-- 'laws.FnExactDivideSteps': WHATEVER THE INPUT: true; the input reads as it did. -/
def fnExactDivideStepsSpec : ChangeSpec := { name := "fnExactDivideSteps", fn := fun _ => fun
  | [d1, d2, d3] => { results := [.lit (.bool true)], args := [d1, d2, d3] }
  | _ => none }
def fnExactDivideStepsRow : OpenClaim := { program := "ythhehbcnpmjicaa", sum := "eb921948838e8a40571b530f15f3228332b035890afb4b0299201d161ef490c4", func := "loop.example/bitwords/laws.FnExactDivideSteps", spec := "fnExactDivideSteps", apart := false }
def FnExactDivideStepsSaid : Prop := fnExactDivideStepsRow.holds Try.pinned (OpenSpec.ofChange fnExactDivideStepsSpec)

/-- ITS FALSE NEIGHBOUR: 'it returns false'. Refute it at one input. -/
def fnExactDivideStepsWrong : ChangeSpec := { name := "fnExactDivideSteps", fn := fun _ => fun
  | [d1, d2, d3] => { results := [.lit (.bool false)], args := [d1, d2, d3] }
  | _ => none }
def FnExactDivideStepsWrongFalsely : Prop := fnExactDivideStepsRow.holds Try.pinned (OpenSpec.ofChange fnExactDivideStepsWrong)

/-- 'laws.FnExactBoothDigits': WHATEVER THE INPUT: true; the input reads as it did. -/
def fnExactBoothDigitsSpec : ChangeSpec := { name := "fnExactBoothDigits", fn := fun _ => fun
  | [d1, d2] => { results := [.lit (.bool true)], args := [d1, d2] }
  | _ => none }
def fnExactBoothDigitsRow : OpenClaim := { program := "ythhehbcnpmjicaa", sum := "eb921948838e8a40571b530f15f3228332b035890afb4b0299201d161ef490c4", func := "loop.example/bitwords/laws.FnExactBoothDigits", spec := "fnExactBoothDigits", apart := false }
def FnExactBoothDigitsSaid : Prop := fnExactBoothDigitsRow.holds Try.pinned (OpenSpec.ofChange fnExactBoothDigitsSpec)

/-- ITS FALSE NEIGHBOUR: 'it returns false'. Refute it at one input. -/
def fnExactBoothDigitsWrong : ChangeSpec := { name := "fnExactBoothDigits", fn := fun _ => fun
  | [d1, d2] => { results := [.lit (.bool false)], args := [d1, d2] }
  | _ => none }
def FnExactBoothDigitsWrongFalsely : Prop := fnExactBoothDigitsRow.holds Try.pinned (OpenSpec.ofChange fnExactBoothDigitsWrong)

/-- 'laws.FnExactManySum': WHATEVER THE INPUT: true; the input reads as it did. -/
def fnExactManySumSpec : ChangeSpec := { name := "fnExactManySum", fn := fun _ => fun
  | [d1, d2] => { results := [.lit (.bool true)], args := [d1, d2] }
  | _ => none }
def fnExactManySumRow : OpenClaim := { program := "ythhehbcnpmjicaa", sum := "eb921948838e8a40571b530f15f3228332b035890afb4b0299201d161ef490c4", func := "loop.example/bitwords/laws.FnExactManySum", spec := "fnExactManySum", unfollowed := true, recurses := true, apart := false }
def FnExactManySumSaid : Prop := fnExactManySumRow.holds Try.pinned (OpenSpec.ofChange fnExactManySumSpec)

/-- ITS FALSE NEIGHBOUR: 'it returns false'. Refute it at one input. -/
def fnExactManySumWrong : ChangeSpec := { name := "fnExactManySum", fn := fun _ => fun
  | [d1, d2] => { results := [.lit (.bool false)], args := [d1, d2] }
  | _ => none }
def FnExactManySumWrongFalsely : Prop := fnExactManySumRow.holds Try.pinned (OpenSpec.ofChange fnExactManySumWrong)

/-- 'laws.FnExactPrefixSteps': WHATEVER THE INPUT: true; the input reads as it did. -/
def fnExactPrefixStepsSpec : ChangeSpec := { name := "fnExactPrefixSteps", fn := fun _ => fun
  | [d1, d2, d3] => { results := [.lit (.bool true)], args := [d1, d2, d3] }
  | _ => none }
def fnExactPrefixStepsRow : OpenClaim := { program := "ythhehbcnpmjicaa", sum := "eb921948838e8a40571b530f15f3228332b035890afb4b0299201d161ef490c4", func := "loop.example/bitwords/laws.FnExactPrefixSteps", spec := "fnExactPrefixSteps", apart := false }
def FnExactPrefixStepsSaid : Prop := fnExactPrefixStepsRow.holds Try.pinned (OpenSpec.ofChange fnExactPrefixStepsSpec)

/-- ITS FALSE NEIGHBOUR: 'it returns false'. Refute it at one input. -/
def fnExactPrefixStepsWrong : ChangeSpec := { name := "fnExactPrefixSteps", fn := fun _ => fun
  | [d1, d2, d3] => { results := [.lit (.bool false)], args := [d1, d2, d3] }
  | _ => none }
def FnExactPrefixStepsWrongFalsely : Prop := fnExactPrefixStepsRow.holds Try.pinned (OpenSpec.ofChange fnExactPrefixStepsWrong)

/-- 'laws.FnExactFastCarries': WHATEVER THE INPUT: true; the input reads as it did. -/
def fnExactFastCarriesSpec : ChangeSpec := { name := "fnExactFastCarries", fn := fun _ => fun
  | [d1, d2, d3, d4] => { results := [.lit (.bool true)], args := [d1, d2, d3, d4] }
  | _ => none }
def fnExactFastCarriesRow : OpenClaim := { program := "ythhehbcnpmjicaa", sum := "eb921948838e8a40571b530f15f3228332b035890afb4b0299201d161ef490c4", func := "loop.example/bitwords/laws.FnExactFastCarries", spec := "fnExactFastCarries", apart := false }
def FnExactFastCarriesSaid : Prop := fnExactFastCarriesRow.holds Try.pinned (OpenSpec.ofChange fnExactFastCarriesSpec)

/-- ITS FALSE NEIGHBOUR: 'it returns false'. Refute it at one input. -/
def fnExactFastCarriesWrong : ChangeSpec := { name := "fnExactFastCarries", fn := fun _ => fun
  | [d1, d2, d3, d4] => { results := [.lit (.bool false)], args := [d1, d2, d3, d4] }
  | _ => none }
def FnExactFastCarriesWrongFalsely : Prop := fnExactFastCarriesRow.holds Try.pinned (OpenSpec.ofChange fnExactFastCarriesWrong)

/- THE SECOND FORM. 'bulk': how many values and letters a reading holds, each counted each time it is reached (what is shared counts as often as it is met; a slice's spare places count too). A statement '..UptoSaid' is the law's where the arguments, and the package variables that the reading takes, are together of bulk at most 1048576: NARROWER than '..Said'. Prove '..Said' where nothing that the law and all that it calls make is longer than what came in: it says more and counts as full. Else prove '..UptoSaid'. A law counts once. -/
mutual
def uptoBulk {H : Type} : DataW H → Nat
  | .lit (.string bytes) => bytes.length + 1
  | .lit _ => 1
  | .nil => 1
  | .ptr d => uptoBulk d + 1
  | .slice elems spare => uptoBulkAll elems + uptoBulkAll spare + 1
  | .agg parts => uptoBulkAll parts + 1
  | .iface _ d => uptoBulk d + 1
  | .map entries => uptoBulkEntries entries + 1
  | .held _ => 1
def uptoBulkAll {H : Type} : List (DataW H) → Nat
  | [] => 0
  | d :: r => uptoBulk d + uptoBulkAll r
def uptoBulkEntries {H : Type} : List (Lit × DataW H) → Nat
  | [] => 0
  | x :: r => uptoBulkEntry x + uptoBulkEntries r
def uptoBulkEntry {H : Type} : Lit × DataW H → Nat
  | (.string bytes, d) => bytes.length + uptoBulk d + 1
  | (_, d) => uptoBulk d + 1
 end
def uptoSmall : (H : Type) → List (DataW H) → Bool := fun _ ds => decide (uptoBulkAll ds ≤ 1048576)
def OpenSpec.upto (s : _root_.Go.ChangeSpec) : _root_.Go.OpenSpec := { _root_.Go.OpenSpec.ofChange s with cond := some uptoSmall }

/-- 'laws.FnExactSignedHigh', WHERE WHAT IT READS IS OF BULK AT MOST 1048576: true; the input reads as it did. -/
def fnExactSignedHighUptoRow : OpenClaim := { program := "ythhehbcnpmjicaa", sum := "eb921948838e8a40571b530f15f3228332b035890afb4b0299201d161ef490c4", func := "loop.example/bitwords/laws.FnExactSignedHigh", spec := "fnExactSignedHigh", unfollowed := true, recurses := true, apart := false, narrowed := true }
def FnExactSignedHighUptoSaid : Prop := fnExactSignedHighUptoRow.holds Try.pinned (OpenSpec.upto fnExactSignedHighSpec)

/-- 'laws.FnExactThreeToTwo', WHERE WHAT IT READS IS OF BULK AT MOST 1048576: true; the input reads as it did. -/
def fnExactThreeToTwoUptoRow : OpenClaim := { program := "ythhehbcnpmjicaa", sum := "eb921948838e8a40571b530f15f3228332b035890afb4b0299201d161ef490c4", func := "loop.example/bitwords/laws.FnExactThreeToTwo", spec := "fnExactThreeToTwo", apart := false, narrowed := true }
def FnExactThreeToTwoUptoSaid : Prop := fnExactThreeToTwoUptoRow.holds Try.pinned (OpenSpec.upto fnExactThreeToTwoSpec)

/-- 'laws.FnExactDivideSigns', WHERE WHAT IT READS IS OF BULK AT MOST 1048576: true; the input reads as it did. -/
def fnExactDivideSignsUptoRow : OpenClaim := { program := "ythhehbcnpmjicaa", sum := "eb921948838e8a40571b530f15f3228332b035890afb4b0299201d161ef490c4", func := "loop.example/bitwords/laws.FnExactDivideSigns", spec := "fnExactDivideSigns", apart := false, narrowed := true }
def FnExactDivideSignsUptoSaid : Prop := fnExactDivideSignsUptoRow.holds Try.pinned (OpenSpec.upto fnExactDivideSignsSpec)

/-- 'laws.FnExactCarryKinds', WHERE WHAT IT READS IS OF BULK AT MOST 1048576: true; the input reads as it did. -/
def fnExactCarryKindsUptoRow : OpenClaim := { program := "ythhehbcnpmjicaa", sum := "eb921948838e8a40571b530f15f3228332b035890afb4b0299201d161ef490c4", func := "loop.example/bitwords/laws.FnExactCarryKinds", spec := "fnExactCarryKinds", apart := false, narrowed := true }
def FnExactCarryKindsUptoSaid : Prop := fnExactCarryKindsUptoRow.holds Try.pinned (OpenSpec.upto fnExactCarryKindsSpec)

/-- 'laws.FnExactCarrySum', WHERE WHAT IT READS IS OF BULK AT MOST 1048576: true; the input reads as it did. -/
def fnExactCarrySumUptoRow : OpenClaim := { program := "ythhehbcnpmjicaa", sum := "eb921948838e8a40571b530f15f3228332b035890afb4b0299201d161ef490c4", func := "loop.example/bitwords/laws.FnExactCarrySum", spec := "fnExactCarrySum", apart := false, narrowed := true }
def FnExactCarrySumUptoSaid : Prop := fnExactCarrySumUptoRow.holds Try.pinned (OpenSpec.upto fnExactCarrySumSpec)

/-- 'laws.FnExactMovedWords', WHERE WHAT IT READS IS OF BULK AT MOST 1048576: true; the input reads as it did. -/
def fnExactMovedWordsUptoRow : OpenClaim := { program := "ythhehbcnpmjicaa", sum := "eb921948838e8a40571b530f15f3228332b035890afb4b0299201d161ef490c4", func := "loop.example/bitwords/laws.FnExactMovedWords", spec := "fnExactMovedWords", apart := false, narrowed := true }
def FnExactMovedWordsUptoSaid : Prop := fnExactMovedWordsUptoRow.holds Try.pinned (OpenSpec.upto fnExactMovedWordsSpec)

/-- 'laws.FnExactCarriesOf', WHERE WHAT IT READS IS OF BULK AT MOST 1048576: true; the input reads as it did. -/
def fnExactCarriesOfUptoRow : OpenClaim := { program := "ythhehbcnpmjicaa", sum := "eb921948838e8a40571b530f15f3228332b035890afb4b0299201d161ef490c4", func := "loop.example/bitwords/laws.FnExactCarriesOf", spec := "fnExactCarriesOf", apart := false, narrowed := true }
def FnExactCarriesOfUptoSaid : Prop := fnExactCarriesOfUptoRow.holds Try.pinned (OpenSpec.upto fnExactCarriesOfSpec)

/-- 'laws.FnExactDivideSteps', WHERE WHAT IT READS IS OF BULK AT MOST 1048576: true; the input reads as it did. -/
def fnExactDivideStepsUptoRow : OpenClaim := { program := "ythhehbcnpmjicaa", sum := "eb921948838e8a40571b530f15f3228332b035890afb4b0299201d161ef490c4", func := "loop.example/bitwords/laws.FnExactDivideSteps", spec := "fnExactDivideSteps", apart := false, narrowed := true }
def FnExactDivideStepsUptoSaid : Prop := fnExactDivideStepsUptoRow.holds Try.pinned (OpenSpec.upto fnExactDivideStepsSpec)

/-- 'laws.FnExactBoothDigits', WHERE WHAT IT READS IS OF BULK AT MOST 1048576: true; the input reads as it did. -/
def fnExactBoothDigitsUptoRow : OpenClaim := { program := "ythhehbcnpmjicaa", sum := "eb921948838e8a40571b530f15f3228332b035890afb4b0299201d161ef490c4", func := "loop.example/bitwords/laws.FnExactBoothDigits", spec := "fnExactBoothDigits", apart := false, narrowed := true }
def FnExactBoothDigitsUptoSaid : Prop := fnExactBoothDigitsUptoRow.holds Try.pinned (OpenSpec.upto fnExactBoothDigitsSpec)

/-- 'laws.FnExactManySum', WHERE WHAT IT READS IS OF BULK AT MOST 1048576: true; the input reads as it did. -/
def fnExactManySumUptoRow : OpenClaim := { program := "ythhehbcnpmjicaa", sum := "eb921948838e8a40571b530f15f3228332b035890afb4b0299201d161ef490c4", func := "loop.example/bitwords/laws.FnExactManySum", spec := "fnExactManySum", unfollowed := true, recurses := true, apart := false, narrowed := true }
def FnExactManySumUptoSaid : Prop := fnExactManySumUptoRow.holds Try.pinned (OpenSpec.upto fnExactManySumSpec)

/-- 'laws.FnExactPrefixSteps', WHERE WHAT IT READS IS OF BULK AT MOST 1048576: true; the input reads as it did. -/
def fnExactPrefixStepsUptoRow : OpenClaim := { program := "ythhehbcnpmjicaa", sum := "eb921948838e8a40571b530f15f3228332b035890afb4b0299201d161ef490c4", func := "loop.example/bitwords/laws.FnExactPrefixSteps", spec := "fnExactPrefixSteps", apart := false, narrowed := true }
def FnExactPrefixStepsUptoSaid : Prop := fnExactPrefixStepsUptoRow.holds Try.pinned (OpenSpec.upto fnExactPrefixStepsSpec)

/-- 'laws.FnExactFastCarries', WHERE WHAT IT READS IS OF BULK AT MOST 1048576: true; the input reads as it did. -/
def fnExactFastCarriesUptoRow : OpenClaim := { program := "ythhehbcnpmjicaa", sum := "eb921948838e8a40571b530f15f3228332b035890afb4b0299201d161ef490c4", func := "loop.example/bitwords/laws.FnExactFastCarries", spec := "fnExactFastCarries", apart := false, narrowed := true }
def FnExactFastCarriesUptoSaid : Prop := fnExactFastCarriesUptoRow.holds Try.pinned (OpenSpec.upto fnExactFastCarriesSpec)

end Rows
end Go.Proofs.Ythhehbcnpmjicaa
