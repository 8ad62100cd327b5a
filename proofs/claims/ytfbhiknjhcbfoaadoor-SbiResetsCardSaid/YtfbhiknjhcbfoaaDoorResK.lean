/- SbiResets: the walk. -/
import Derived.Test.YtfbhiknjhcbfoaaDoorOnceH
import Derived.Test.YtfbhiknjhcbfoaaDoorResD

namespace Go.Sy.Rs
open Go.Proofs Go.RowKit

noncomputable abbrev PR : Program := Tryd.prog
noncomputable def ktB : Kit (cfgB PR) := kit (cfgB PR) (fun _ => true) fun _ _ _ => rfl
noncomputable def ktR : Kit (cfgRes PR) := kit (cfgRes PR) frRes frRes_ok
def isTrue (v : SV) : Bool := match v with
  | .bool x => match x with
    | .tt b => b
    | _ => false
  | _ => false

theorem shown_ok : callK ktB 5000 4 [] [] isTrue = true := by kernel_rfl
end Go.Sy.Rs
