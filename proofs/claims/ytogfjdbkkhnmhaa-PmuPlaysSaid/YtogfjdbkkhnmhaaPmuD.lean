import Derived.Test.YtogfjdbkkhnmhaaK10
namespace Go.Sy.Pm

def lft : Code → Code
  | .seq a _ => a
  | .block _ b => b
  | .loop b => b
  | .cond _ a _ => a
  | c => c
def rgt : Code → Code
  | .seq _ b => b
  | .cond _ _ b => b
  | c => c

/-- What the law's list says, and what two ways of writing say alike. -/
def oraLen (e : Operand → SV) (args : List Operand) (tys : List TypeId) : Option SV := match args with
  | [x] => match tys with
    | [t] => if t = 22 then (match e x with
      | .opq i => if i = 0 then some (.int .i64 (.var 1)) else none
      | _ => none) else none
    | _ => none
  | _ => none
def u64X (v : SV) : Option X := match v with
  | .int k x => if k = .u64 then some x else none
  | _ => none
def oraBin (op : BinOp) (x y : SV) : Option SV := match u64X x, u64X y with
  | some x, some (.lit n) => match op with
    | .quo => match x with
      | .var i => if n = 65536 ∧ (i = 5 ∨ i = 6) then some (.int .u64 (.ar .shr .u64 (.var i) (.lit 16))) else none
      | _ => none
    | .rem => match x with
      | .var i => if i = 5 ∨ i = 6 then (if n = 65536 then some (.int .u64 (.ar .and .u64 (.var i) (.lit 65535))) else if n = 2 then some (.int .u64 (.ar .and .u64 (.var i) (.lit 1))) else none) else none
      | _ => none
    | .eql => match x with
      | .ar .and .u64 y (.lit 1) => if n = 1 then (match y with
        | .ar .shr .u64 (.var i) (.lit 2) => if i = 5 ∨ i = 6 then some (.bool (.not (.cmp .eql (.ar .and .u64 (.var i) (.lit 4)) (.lit 0)))) else none
        | .var i => if i = 5 ∨ i = 6 then some (.bool (.not (.cmp .eql (.ar .and .u64 (.var i) (.lit 1)) (.lit 0)))) else none
        | _ => none) else none
      | _ => none
    | _ => none
  | _, _ => none
def ora (kind base mask : X) : Ora := fun op e => match op with
  | .call c => match c.callee with
    | .builtin b => match b with
      | .len => oraLen e c.args.toList c.argTypes.toList
      | _ => none
    | _ => none
  | .indexAddr t x y => if t = 22 then (match e x, e y with
    | .opq i, .int .i64 (.var j) => if i = 0 ∧ j = 0 then some (.opq 1) else none
    | _, _ => none) else none
  | .fieldAddr t x f => if t = 34 then (match e x with
    | .opq i => if i = 1 ∧ f = 0 then some (.opq 2) else none
    | _ => none) else none
  | .load t x => if t = 34 then (match e x with
      | .opq i => if i = 1 then some (.agg [.int .u8 kind, .int .u64 base, .int .u64 mask, .int .u64 (.var 5), .int .u64 (.var 6)]) else none
      | _ => none)
    else if t = 5 then (match e x with
      | .opq i => if i = 2 then some (.int .u8 kind) else none
      | _ => none) else none
  | .binOp op t x y _ => if t = 27 then oraBin op (e x) (e y) else none
  | _ => none

def one (k : Nat) : List SV := [.bool (.bvar (2 * k)), .bool (.bvar (2 * k + 1)), .int .i64 (.var (10 + 2 * k)), .int .u64 (.var (11 + 2 * k))]
def fx : List SV := [.bool (.tt true), .bool (.tt true), .int .i64 (.lit (-1)), .int .u64 (.lit 0)]
def zr : List SV := [.bool (.tt false), .bool (.tt false), .int .i64 (.lit 0), .int .u64 (.lit 0)]
def rest4 : List SV := one 0 ++ one 1 ++ one 2 ++ one 3

def objP : SO := .cells (fx ++ fx ++ rest4) 47 none (0, 0)
def objY : SO := .cells (zr ++ zr ++ rest4) 32 none (0, 0)

/-- At the head of a round. -/
def pat (i : X) : Pat := { tm := [(0, .opq 0), (4, .ptr (some (0, 0))), (5, .ptr (some (1, 0))), (6, .int .i64 i)], nt := 103, os := [objP, objY], pc := [] }

def intAt (cs : List SV) (i : Nat) : X := match cs[i]? with
  | some (.int _ x) => x
  | _ => .lit 0
def boolAt (cs : List SV) (i : Nat) : X := match cs[i]? with
  | some (.bool x) => x
  | _ => .tt false

def pAt (s : St) (t : Nat) : Nat := match slot s.tm t with
  | .ptr (some (i, _)) => i
  | _ => 0

def cellsAt (s : St) (i : Nat) : List SV := match s.hp.t.get i with
  | some (.cells cs ..) => cs
  | _ => []

/-- The counters' values as they are. The number of the round is 'i'. -/
def rd (i : X) (s : St) : Sb :=
  let p := pAt s 4
  let y := pAt s 5
  let cs := cellsAt s p
  { i := fun j => match j with
      | 0 => i
      | 1 => .var 1
      | j => if j < 10 then .var j else intAt cs (8 + 4 * ((j - 10) / 2) + 2 + (j - 10) % 2)
    b := fun j => boolAt cs (8 + 4 * (j / 2) + j % 2)
    s := fun j => .svar j
    v := fun j => j
    π := [p, y]
    κ := [] }

def tgB (atoms : List X) (i : X) : Tg := { k := .normal, p := pat (.var 0), rd := rd i, at_ := atoms }

def kd : X := .ar .rem .u8 (.var 2) (.lit 6)
/-- What the kind is known to be. -/
def kpc (c : Nat) : List X := (List.range c).map (fun (j : Nat) => X.not (.cmp .eql kd (.lit j))) ++ [.cmp .eql kd (.lit c)]

def hkNone : Hooks := fun _ _ _ _ => none
/-- A set that may not be. -/
def hkBad : Hooks := fun f args h pc => if f = 14 ∨ f = 27 then match args with
    | [.int .u64 (.var 3), .int .u64 (.var 4)] => some [(some (.tup [.sl none 0 (.exact 0), .bool (.tt false)]), h, pc)]
    | _ => none
  else none

/-- What is done, and what is meant. -/
def mid (bb : Code) : Code := .seq (lft (rgt bb)) (.seq (lft (rgt (rgt bb))) (lft (rgt (rgt (rgt bb)))))
def body0 (P : Program) : Code := match P.funcs[3]? with
  | some fn => match fn.body with
    | some c => c
    | none => .skip
  | none => .skip
def lb0 (P : Program) : Code := lft (lft (rgt (lft (rgt (rgt (rgt (rgt (rgt (body0 P)))))))))
def bb0 (P : Program) : Code := lft (lft (rgt (lb0 P)))

def cfg (P : Program) (mg : Bool) (hk : Hooks) (b mk : X) : Cfg := { P := P, gl := fun _ => none, ora := ora (.var 2) b mk, mg := mg, hk := hk }
def stK (pc : List X) : St := { (pat (.var 0)).st0 with pc := pc }
def midOK (P : Program) (mg : Bool) (hk : Hooks) (c : Nat) (b mk : X) (pc : List X) : Bool :=
  lands [] [tgB [] (.var 0)] (evC (cfg P mg hk b mk) 400 (mid (bb0 P)) (stK (kpc c ++ pc)))

def oraH : Ora := fun op e => match op with
  | .call c => match c.callee with
    | .builtin b => match b with
      | .len => oraLen e c.args.toList c.argTypes.toList
      | _ => none
    | _ => none
  | _ => none
/-- Operations that the list has nothing to say of. -/
def fr (op : Op) : Bool := match op with
  | .call c => match c.callee with
    | .builtin b => match b with
      | .len => false
      | _ => true
    | _ => true
  | .indexAddr t _ _ => !Nat.beq t 22
  | .fieldAddr t _ _ => !Nat.beq t 34
  | .load t _ => !Nat.beq t 34 && !Nat.beq t 5
  | .binOp op t _ _ _ => match op with
    | .quo | .rem | .eql => !Nat.beq t 27
    | _ => true
  | _ => true
theorem oraBin_none {op : BinOp} (h1 : op ≠ .quo) (h2 : op ≠ .rem) (h3 : op ≠ .eql) (x y : SV) : oraBin op x y = none := by
  unfold oraBin
  split
  · split <;> first | rfl | (exfalso; simp_all; done)
  · rfl
theorem beq_no {a b : Nat} (h : (!Nat.beq a b) = true) : a ≠ b := by
  intro e; subst e; simp at h
theorem fr_ok (k b m : X) (op : Op) (e : Operand → SV) (h : fr op = true) : ora k b m op e = none := by
  cases op with
  | call c =>
    obtain ⟨f, args, tys⟩ := c
    cases f with
    | builtin bi => cases bi <;> first | rfl | cases h
    | _ => rfl
  | indexAddr t x y => simp only [ora, if_neg (beq_no h)]
  | fieldAddr t x f => simp only [ora, if_neg (beq_no h)]
  | load t x =>
    have h' : (!Nat.beq t 34) = true ∧ (!Nat.beq t 5) = true := by simpa [fr] using h
    simp only [ora, if_neg (beq_no h'.1), if_neg (beq_no h'.2)]
  | binOp op t x y t' =>
    simp only [ora]
    by_cases ht : t = 27
    · subst ht
      rw [if_pos rfl]
      refine oraBin_none ?_ ?_ ?_ _ _ <;> (intro e; subst e; cases h)
    · rw [if_neg ht]
  | _ => rfl

noncomputable def kt (P : Program) (mg : Bool) (hk : Hooks) (b mk : X) : Kit (cfg P mg hk b mk) := kit (cfg P mg hk b mk) fr (fr_ok _ _ _)
noncomputable def midK (P : Program) (mg : Bool) (hk : Hooks) (c : Nat) (b mk : X) (pc : List X) : Bool :=
  okK ((comp (cfg P mg hk b mk) (kt P mg hk b mk) (mid (bb0 P))).v (lev (cfg P mg hk b mk) (kt P mg hk b mk) 400) (stK (kpc c ++ pc)) (landK [] [tgB [] (.var 0)]))
theorem midK_ok {P : Program} {mg : Bool} {hk : Hooks} {c : Nat} {b mk : X} {pc : List X} (h : midK P mg hk c b mk pc = true) : midOK P mg hk c b mk pc = true := landK_ok h

end Go.Sy.Pm
