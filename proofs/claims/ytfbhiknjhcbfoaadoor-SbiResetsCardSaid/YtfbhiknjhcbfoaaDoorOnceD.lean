/- sync.Once in one goroutine, as the evaluator meets it: what it does. -/
import Derived.Test.YtfbhiknjhcbfoaaDoorK13
namespace Go.Sy

def litIs (v : Option SV) (k : IntKind) (n : Int) : Bool := match v with
  | some (.int q (.lit m)) => kindIs q k && intIs m n
  | _ => false
theorem litIs_eq {v : Option SV} {k : IntKind} {n : Int} (h : litIs v k n = true) : v = some (.int k (.lit n)) := by
  unfold litIs at h
  split at h
  · rw [Bool.and_eq_true, kindIs_iff, intIs_iff] at h
    rw [h.1, h.2]
  · cases h
def litAt (v : Option SV) (k : IntKind) : Option Int := match v with
  | some (.int q (.lit m)) => if kindIs q k then some m else none
  | _ => none
theorem litAt_eq {v : Option SV} {k : IntKind} {n : Int} (h : litAt v k = some n) : v = some (.int k (.lit n)) := by
  unfold litAt at h
  split at h
  · split at h
    · rename_i hk; rw [kindIs_iff] at hk; cases h; rw [hk]
    · cases h
  · cases h
def plainObj (h : Hp) (b : Nat) : Option (List SV × TypeId) := match objCells h b with
  | some (cs, el, none, fz) => if fz == (0, 0) then some (cs, el) else none
  | _ => none
theorem plainObj_eq {h : Hp} {b : Nat} {cs : List SV} {el : TypeId} (he : plainObj h b = some (cs, el)) : objCells h b = some (cs, el, none, (0, 0)) := by
  unfold plainObj at he
  split at he
  · rename_i cs' el' fz hc
    split at he
    · rename_i hz; cases he; rw [hc, eq_of_beq hz]
    · cases he
  · cases he

def isUnit (l : Option (List Ret)) : Option (Hp × List X) := match l with
  | some [(some (.tup []), h, pc)] => some (h, pc)
  | _ => none
theorem isUnit_eq {l : Option (List Ret)} {h : Hp} {pc : List X} (he : isUnit l = some (h, pc)) : l = some [(some (.tup []), h, pc)] := by
  unfold isUnit at he
  split at he
  · cases he; rfl
  · cases he

def onceDo (ev : Caller) (b o : Nat) (A B C : SV) (h : Hp) (pc : List X) : Option (List Ret) :=
  match plainObj h b with
  | some (cs, el) => match litAt cs[o]? .u32 with
    | some d => if d = 0 then
        (if litIs cs[o + 1]? .i32 0 then
          match isUnit (ev 50 [A, B, C] (h.put b (.cells (cs.set (o + 1) (.int .i32 (.lit 1))) el none (0, 0))) pc) with
          | some (h2, pc2) => match plainObj h2 b with
            | some (cs2, el2) => if litIs cs2[o]? .u32 0 && litIs cs2[o + 1]? .i32 1 then
                some [(some (.tup []), (h2.put b (.cells (cs2.set o (.int .u32 (.lit 1))) el2 none (0, 0))).put b (.cells ((cs2.set o (.int .u32 (.lit 1))).set (o + 1) (.int .i32 (.lit 0))) el2 none (0, 0)), pc2)] else none
            | none => none
          | none => none
        else none)
      else some [(some (.tup []), h, pc)]
    | none => none
  | none => none

def hkOnce (ev : Caller) : Hooks := fun f args h pc => if f = 49 then (match args with
  | [.ptr (some (b, o)), .func (.func g) [] [A, B, C]] => if g = 50 then onceDo ev b o A B C h pc else none
  | _ => none) else none

end Go.Sy
