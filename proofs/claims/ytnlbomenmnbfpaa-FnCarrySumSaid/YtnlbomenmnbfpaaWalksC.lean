/-
  THE WALKS OF KINDS, PRODUCTS AND DIVISIONS, the program's and the reference's: each answers plain functions of its arguments; no condition.
-/
import Derived.Test.YtnlbomenmnbfpaaWalksB
import Derived.Test.YtnlbomenmnbfpaaAdders
import Derived.Test.YtnlbomenmnbfpaaProducts
namespace Go.Proofs.Ytnlbomenmnbfpaa
open Go Go.RowKit Bw
set_option linter.unusedVariables false
theorem ret_tup {a b c d : Int} {x y : Bool} (h : a = b) (h' : c = d) (hx : x = y) : Ending.returned (.tuple #[.int .i64 a, .int .i64 c, .bool x]) = .returned (.tuple #[.int .i64 b, .int .i64 d, .bool y]) := by rw [h, h', hx]

end Go.Proofs.Ytnlbomenmnbfpaa