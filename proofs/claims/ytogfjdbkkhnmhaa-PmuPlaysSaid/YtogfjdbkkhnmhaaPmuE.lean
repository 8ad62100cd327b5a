/- The pieces of the law's loop. -/
import Derived.Test.YtogfjdbkkhnmhaaPmuO
namespace Go.Sy.Pm
open Go.Proofs

/-- For the loop's head: only how long the list is. -/
def frH (op : Op) : Bool := match op with
  | .call c => match c.callee with
    | .builtin b => match b with
      | .len => false
      | _ => true
    | _ => true
  | _ => true
theorem frH_ok (op : Op) (e : Operand → SV) (h : frH op = true) : oraH op e = none := by
  cases op with
  | call c =>
    obtain ⟨f, args, tys⟩ := c
    cases f with
    | builtin bi => cases bi <;> first | rfl | cases h
    | _ => rfl
  | _ => rfl
def cfgH (P : Program) : Cfg := { P := P, gl := fun _ => none, ora := oraH, mg := false, hk := hkNone }
noncomputable def ktH (P : Program) : Kit (cfgH P) := kit (cfgH P) frH frH_ok

/-- The head: another round, or none. -/
def ltC (x y : X) : X := .cmp .lss x y
noncomputable def headK (P : Program) : Bool :=
  okK ((comp (cfgH P) (ktH P) (lft (lb0 P))).v (lev (cfgH P) (ktH P) 100) (pat (.var 0)).st0
    (landK [] [{ k := .normal, p := pat (.var 0), rd := rd (.var 0), at_ := [ltC (.var 0) (.var 1), ltC (.var 0) (.lit 60)] }, { k := .exit 0, p := pat (.var 0), rd := rd (.var 0), at_ := [] }]))
/-- Behind the round: the next number. -/
noncomputable def incK (P : Program) : Bool :=
  okK ((comp (cfgH P) (ktH P) (rgt (rgt (lb0 P)))).v (lev (cfgH P) (ktH P) 100) (pat (.var 0)).st0
    (landK [] [{ k := .normal, p := pat (.var 0), rd := rd (.ar .add .i64 (.var 0) (.lit 1)), at_ := [] }]))
/-- A clone goes on, or does not. -/
noncomputable def pieceK (P : Program) (mg : Bool) (c : Code) : Bool :=
  okK ((comp (cfg P mg hkNone (.var 3) (.var 4)) (kt P mg hkNone (.var 3) (.var 4)) c).v (lev (cfg P mg hkNone (.var 3) (.var 4)) (kt P mg hkNone (.var 3) (.var 4)) 400) (pat (.var 0)).st0 (landK [] [tgB [] (.var 0)]))
noncomputable def cloneK (P : Program) (mg : Bool) : Bool := pieceK P mg (lft (bb0 P))
noncomputable def readsK (P : Program) (mg : Bool) : Bool := pieceK P mg (rgt (rgt (rgt (rgt (bb0 P)))))
end Go.Sy.Pm
