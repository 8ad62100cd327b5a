/- The sets: patterns of the two loops. -/
import Derived.Test.YtogfjdbkkhnmhaaPmuE
namespace Go.Sy.Pm
/-- Elements. -/
def els (k : IntKind) (n : Nat) : List SV := (List.range n).map fun j => .int k (.var (10 + j))
def lst (n : Nat) : SV := .sl (some (0, 0)) n (.unk 0)
/-- At the head of pmu's loop: so many in the list. -/
def pS (n : Nat) : Pat := match n with
  | 0 => { tm := [(0, .int .u64 (.var 0)), (1, .int .u64 (.var 1)), (6, .sl none 0 (.exact 0)), (7, .int .u64 (.var 2))], nt := 32, os := [], pc := [] }
  | n => { tm := [(0, .int .u64 (.var 0)), (1, .int .u64 (.var 1)), (6, lst n), (7, .int .u64 (.var 2))], nt := 32, os := [.cells (els .u64 n) 27 (some (0, 1)) (0, 0)], pc := [] }
/-- At the head of the reference's. -/
def pT (n : Nat) : Pat := match n with
  | 0 => { tm := [(0, .int .u64 (.var 0)), (1, .int .u64 (.var 1)), (6, .sl (some (0, 0)) 0 (.exact 0)), (7, .int .i64 (.var 2))], nt := 35, os := [.cells [] 3 none (0, 0)], pc := [] }
  | n => { tm := [(0, .int .u64 (.var 0)), (1, .int .u64 (.var 1)), (6, lst n), (7, .int .i64 (.var 2))], nt := 35, os := [.cells (els .i64 n) 3 (some (0, 1)) (0, 0)], pc := [] }
def nkS (n : Nat) : Nat := match n with
  | 0 => 0
  | _ => 1
/-- Refused. -/
def pR (nt : Nat) : Pat := { tm := [(4, .sl none 0 (.exact 0)), (5, .bool (.tt false))], nt := nt, os := [], pc := [] }

def listAt (s : St) : Option Nat × Option CX := match slot s.tm 6 with
  | .sl (some (i, _)) _ c => (some i, some c)
  | .sl none _ c => (none, some c)
  | _ => (none, none)
def xAt (v : SV) : X := match v with
  | .int _ x => x
  | _ => .lit 0
def rdS (s : St) : Sb :=
  let la := listAt s
  let cs := match la.1 with
    | some i => cellsAt s i
    | none => []
  { i := fun j => match j with
      | 0 => xAt (slot s.tm 0)
      | 1 => xAt (slot s.tm 1)
      | 2 => xAt (slot s.tm 7)
      | j => if j < 10 then .var j else intAt cs (j - 10)
    b := .bvar, s := .svar, v := fun j => j
    π := match la.1 with | some i => [i] | none => []
    κ := match la.2 with | some (.unk j) => [.unk j] | _ => [] }
def rdN (_ : St) : Sb := { i := .var, b := .bvar, s := .svar, v := fun j => j, π := [], κ := [] }
def cfgS (P : Program) : Cfg := { P := P, gl := fun _ => none, ora := fun _ _ => none, mg := false, hk := hkNone }
def bodyOf (P : Program) (f : Nat) : Code := match P.funcs[f]? with
  | some fn => match fn.body with
    | some c => c
    | none => .skip
  | none => .skip
/-- The loop's body: R0; R1; (R2; block (loop body)); .. -/
def loopS (P : Program) (f : Nat) : Code := lft (lft (rgt (lft (rgt (rgt (bodyOf P f))))))
/-- A set that may be: its list. -/
def setRet (k : IntKind) (e : TypeId) (z : Bool) (L : List Nat) (h : Hp) (pc : List X) : Ret :=
  match L with
  | [] => if z then (some (.tup [.sl none 0 (.exact 0), .bool (.tt true)]), h, pc)
    else (some (.tup [.sl (some (h.nx, 0)) 0 (.exact 0), .bool (.tt true)]), h.new (.cells [] e none (0, 0)), pc)
  | L => (some (.tup [.sl (some (h.nx, 0)) L.length (.unk h.nk), .bool (.tt true)]), { (h.new (.cells (L.map fun (x : Nat) => .int k (.lit x)) e (some (h.nk, 1)) (0, 0))) with nk := h.nk + 1 }, pc)
def isVars (args : List SV) : Bool := match args with
  | [.int .u64 (.var 3), .int .u64 (.var 4)] => true
  | _ => false
def hkSet (L : List Nat) : Hooks := fun f args h pc =>
  if f = 14 then (if isVars args then some [setRet .u64 27 true L h pc] else none)
  else if f = 27 then (if isVars args then some [setRet .i64 3 false L h pc] else none)
  else none

end Go.Sy.Pm
