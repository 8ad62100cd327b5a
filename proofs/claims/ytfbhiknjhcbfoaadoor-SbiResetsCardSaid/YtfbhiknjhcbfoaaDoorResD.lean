/- SbiResets: definitions. -/
import Derived.Test.YtfbhiknjhcbfoaaDoorOnceD
namespace Go.Sy
/-- The rest by 2^32 is the lower half. -/
def oraRes : Ora := fun op e => match op with
  | .binOp op t x y _ => match op with
    | .rem => if t = 22 then (match e x with
      | .int k a => match a with
        | .var i => if k = .u64 ∧ i < 4 then (if litIs (some (e y)) .u64 4294967296 then some (.int .u64 (.ar .and .u64 (.var i) (.lit 4294967295))) else none) else none
        | _ => none
      | _ => none) else none
    | _ => none
  | _ => none
def frRes (op : Op) : Bool := match op with
  | .binOp op _ _ _ _ => match op with
    | .rem => false
    | _ => true
  | _ => true
theorem frRes_ok (op : Op) (e : Operand → SV) (h : frRes op = true) : oraRes op e = none := by
  cases op with
  | binOp op t x y t' => cases op <;> first | rfl | cases h
  | _ => rfl
def hkN2 : Hooks := fun _ _ _ _ => none
def cfgB (P : Program) : Cfg := { P := P, gl := fun _ => none, ora := fun _ _ => none, mg := false, hk := hkN2 }
def hkRes (P : Program) : Hooks := fun f args h pc => if f = 4 then (match args with
  | [] => some [(some (.bool (.tt true)), h, pc)]
  | _ => none) else hkOnce (evF P false hkN2 (evC (cfgB P) 20)) f args h pc
def cfgRes (P : Program) : Cfg := { P := P, gl := fun _ => none, ora := oraRes, mg := false, hk := hkRes P }
end Go.Sy
