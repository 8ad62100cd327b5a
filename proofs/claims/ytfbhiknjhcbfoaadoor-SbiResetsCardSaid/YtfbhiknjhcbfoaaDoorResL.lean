/- SbiResets: the law's walk. -/
import Derived.Test.YtfbhiknjhcbfoaaDoorResK

namespace Go.Sy.Rs
open Go.Proofs Go.RowKit

def resArgs : List SV := [.agg [.int .u64 (.var 0), .int .u64 (.var 1)], .agg [.int .u64 (.var 2), .int .u64 (.var 3)]]
theorem law_ok : callK ktR 5000 3 resArgs [] isTrue = true := by kernel_rfl
end Go.Sy.Rs
