/- The evaluator once more, made for the kernel: code is first turned into functions, whose ways are handed on. -/
import Derived.Test.YtfbhiknjhcbfoaaDoorSy3
namespace Go.Sy

/-! ## lists of ways -/

section
variable {α β γ : Type}

def apO (a b : Option (List β)) : Option (List β) := match a with
  | none => none
  | some x => match b with
    | none => none
    | some y => some (x ++ y)

theorem bindO_none (f : α → Option (List β)) : bindO none f = none := rfl
theorem bindO_nil (f : α → Option (List β)) : bindO (some []) f = some [] := rfl
theorem bindO_cons (a : α) (l : List α) (f : α → Option (List β)) : bindO (some (a :: l)) f = apO (f a) (bindO (some l) f) := by
  show (match f a, bindO (some l) f with | some x, some y => some (x ++ y) | _, _ => none) = _
  cases f a <;> cases bindO (some l) f <;> rfl
theorem apO_nil (a : Option (List β)) : apO a (some []) = a := by cases a <;> simp [apO]
theorem nil_apO (a : Option (List β)) : apO (some []) a = a := by cases a <;> simp [apO]
theorem apO_assoc (a b c : Option (List β)) : apO (apO a b) c = apO a (apO b c) := by cases a <;> cases b <;> cases c <;> simp [apO]
theorem bindO_one (a : α) (f : α → Option (List β)) : bindO (some [a]) f = f a := by rw [bindO_cons, bindO_nil, apO_nil]
theorem bindO_append (x y : List α) (f : α → Option (List β)) : bindO (some (x ++ y)) f = apO (bindO (some x) f) (bindO (some y) f) := by
  induction x with
  | nil => rw [List.nil_append, bindO_nil, nil_apO]
  | cons a x ih => rw [List.cons_append, bindO_cons, bindO_cons, ih, apO_assoc]
theorem bindO_apO (a b : Option (List α)) (f : α → Option (List β)) : bindO (apO a b) f = apO (bindO a f) (bindO b f) := by
  cases a with
  | none => rfl
  | some x => cases b with
    | none => cases h : bindO (some x) f <;> rfl
    | some y => exact bindO_append x y f
theorem bindO_assoc (l : Option (List α)) (f : α → Option (List β)) (g : β → Option (List γ)) : bindO (bindO l f) g = bindO l fun a => bindO (f a) g := by
  cases l with
  | none => rfl
  | some l =>
    induction l with
    | nil => rfl
    | cons a l ih => rw [bindO_cons, bindO_cons, bindO_apO, ih]
theorem bindO_ret (l : Option (List α)) : bindO l (fun a => some [a]) = l := by
  cases l with
  | none => rfl
  | some l =>
    induction l with
    | nil => rfl
    | cons a l ih => rw [bindO_cons, ih]; rfl
theorem bindO_map (l : Option (List α)) (g : α → β) (f : β → Option (List γ)) : bindO (l.map (List.map g)) f = bindO l fun a => f (g a) := by
  cases l with
  | none => rfl
  | some l =>
    induction l with
    | nil => rfl
    | cons a l ih => rw [Option.map_some, List.map_cons, bindO_cons, bindO_cons, ← ih]; rfl
theorem bindO_congr (l : Option (List α)) {f g : α → Option (List β)} (h : ∀ a, f a = g a) : bindO l f = bindO l g := by rw [funext h]
end

/-! ## kinds of functions -/

abbrev R1 := Option Outs
abbrev KO := OK → St → R1
abbrev CallK := FuncId → List SV → Hp → List X → (Ret → R1) → R1
inductive Lv
  | z
  | s (c : CallK) (p : Lv)
structure Bx (α : Type) where
  v : α
abbrev CF := Lv → St → KO → R1
abbrev RF := CallK → St → KO → R1
abbrev OF := CallK → St → (St → R1) → (St → R1) → R1

def unc (k : KO) : OK × St → R1 := fun o => k o.1 o.2
def retO : KO := fun e s => some [(e, s)]
theorem bindO_retO (l : R1) : bindO l (unc retO) = l := bindO_ret l
def selO (kn kb : St → R1) : OK × St → R1 := fun o => match o.1 with
  | .normal => kn o.2
  | _ => kb o.2
def encR (r : Ret) : OK × St := match r with
  | (v, h, pc) => match v with
    | some v => (.normal, ⟨N8.all (N8.all (N8.all v)), 0, h, pc⟩)
    | none => (.bad, ⟨Tm.nil, 0, h, pc⟩)
def decR (o : OK × St) : Ret := match o with
  | (e, s) => match e with
    | .bad => (none, s.hp, s.pc)
    | _ => (some (((s.tm.sel 0).sel 0).sel 0), s.hp, s.pc)
theorem decR_encR (r : Ret) : decR (encR r) = r := by
  obtain ⟨v, h, pc⟩ := r
  cases v <;> rfl
def cN (call : CallK) : Caller := fun f a h pc => (call f a h pc fun r => some [encR r]).map (List.map decR)
def CallOKK (call : CallK) (ev : Caller) : Prop := ∀ f a h pc k, call f a h pc k = bindO (ev f a h pc) k
theorem bindO_pure {α β : Type} (l : Option (List α)) (g : α → β) : (bindO l fun a => some [g a]) = l.map (List.map g) := by
  cases l with
  | none => rfl
  | some l =>
    induction l with
    | nil => rfl
    | cons a l ih => rw [bindO_cons, ih]; rfl
theorem cN_eq {call : CallK} {ev : Caller} (h : CallOKK call ev) : cN call = ev := by
  funext f a hp pc
  unfold cN
  rw [h, bindO_pure]
  cases ev f a hp pc with
  | none => rfl
  | some l => simp [decR_encR, Function.comp_def]

/-! ### one way at a time -/

noncomputable def boolR (b : Bool) (t f : R1) : R1 := Bool.rec (motive := fun _ => R1 → R1 → R1) (fun _ f => f) (fun t _ => t) b t f
theorem boolR_eq (b : Bool) (t f : R1) : boolR b t f = if b then t else f := by cases b <;> rfl
noncomputable def normK (e : OK) (a : R1) (b : OK → R1) : R1 :=
  OK.rec (motive := fun _ => R1 → (OK → R1) → R1) (fun a _ => a) (fun n _ b => b (.exit n)) (fun _ b => b .ret) (fun _ b => b .bad) e a b
theorem normK_eq (e : OK) (a : R1) (b : OK → R1) : normK e a b = match e with | .normal => a | e => b e := by cases e <;> rfl
noncomputable def lvK (lv : Lv) (f : CallK → Lv → R1) : R1 := Lv.rec (motive := fun _ => (CallK → Lv → R1) → R1) (fun _ => none) (fun c p _ f => f c p) lv f

/-! ## operations -/

section
variable (C : Cfg)

/-- As the plain evaluator has it. -/
def slowOp (o : Oper) : OF := fun call s kn kb => bindO (evOper C.P C.gl C.ora (cN call) o s) (selO kn kb)

def OpOK (o : Oper) (f : OF) : Prop := ∀ call ev, CallOKK call ev → ∀ s kn kb, f call s kn kb = bindO (evOper C.P C.gl C.ora ev o s) (selO kn kb)

theorem slowOp_ok (o : Oper) : OpOK C o (slowOp C o) := fun call ev h s kn kb => by unfold slowOp; rw [cN_eq h]

/-- Only these two ways to end. -/
theorem evRr_ends {q : Bool} {call : Caller} {s : St} {d : Option Tmp} {x : List X × Rr} {outs : Outs} (h : evRr q call s d x = some outs) : ∀ o ∈ outs, o.1 = .normal ∨ o.1 = .bad := by
  obtain ⟨cs, r⟩ := x
  rw [evRr_eq] at h
  cases hw : ways s.pc cs with
  | none => rw [hw] at h; cases h; simp
  | some cs' =>
    rw [hw] at h
    simp only [appK_eq] at h
    cases r with
    | val v hp =>
      simp only [putK_eq, fcH_eq, ite_self] at h
      cases h; simp
    | bad => cases h; simp
    | enter f args =>
      simp only at h
      cases hc : call f args s.hp (cs' ++ s.pc) with
      | none => rw [hc] at h; cases h
      | some l =>
        rw [hc] at h
        cases h
        intro o ho
        obtain ⟨⟨v, hp, pc⟩, _, rfl⟩ := List.mem_map.1 ho
        cases v <;> simp

theorem bindO_ends {α : Type} {l : Option (List α)} {f : α → R1} (hf : ∀ a outs, f a = some outs → ∀ o ∈ outs, o.1 = OK.normal ∨ o.1 = .bad) {k k' : OK × St → R1} (hk : ∀ o, (o.1 = OK.normal ∨ o.1 = .bad) → k o = k' o) : bindO (bindO l f) k = bindO (bindO l f) k' := by
  rw [bindO_assoc, bindO_assoc]
  refine bindO_congr l fun a => ?_
  cases h : f a with
  | none => rfl
  | some outs =>
    have := hf a outs h
    clear h
    induction outs with
    | nil => rfl
    | cons o outs ih =>
      rw [bindO_cons, bindO_cons, hk o (this o List.mem_cons_self), ih fun o' ho' => this o' (List.mem_cons_of_mem _ ho')]

theorem evOper_go {call : Caller} {o : Oper} {s : St} (f : OK × St → R1) : bindO (evOper C.P C.gl C.ora call o s) f = bindO (evOper C.P C.gl C.ora call o s) (selO (fun s => f (.normal, s)) (fun s => f (.bad, s))) := by
  unfold evOper
  refine bindO_ends (fun a outs h => evRr_ends h) fun o ho => ?_
  obtain ⟨e, s'⟩ := o
  rcases ho with h | h <;> simp only at h <;> subst h <;> rfl

/-! ## rows of operations -/

noncomputable def rdW (w : Want) (y n : R1) (i : X → R1) : R1 :=
  Want.rec (motive := fun _ => R1 → R1 → (X → R1) → R1) (fun y _ _ => y) (fun _ n _ => n) (fun c _ _ i => i c) (fun _ _ _ => none) w y n i

def skipOp (d : Option Tmp) (g : RF) : RF := fun call s k => putK s d (.tup []) fun s => g call s k
def goOp (f : OF) (g : RF) : RF := fun call s k => f call s (fun s => g call s k) (fun s => k .bad s)
noncomputable def ifOp (c : X) (d : Option Tmp) (f : OF) (g : RF) : RF := fun call s k =>
  match known s.pc c with
  | some true => goOp f g call s k
  | some false => skipOp d g call s k
  | none => apO (goOp f g call (s.assume [c]) k) (g call ((s.assume [.not c]).put d (.tup [])) k)
noncomputable def guardOp (ops : Array Oper) (o : Oper) (f : OF) (g : RF) : RF := fun call s k =>
  rdW (wantSV ops s.tm o) (goOp f g call s k) (skipOp o.dst g call s k) (fun c => ifOp c o.dst f g call s k)

noncomputable def seqOp (ops : Array Oper) (o : Oper) (f : OF) (g : RF) : Bx RF :=
  match o.guard with
  | none => ⟨goOp f g⟩
  | some _ => ⟨guardOp ops o f g⟩

def nilOps : RF := fun _ s k => k .normal s

noncomputable def compOps (fo : Oper → Bx OF) (ops : Array Oper) (l : List Oper) : Bx RF :=
  List.rec (motive := fun _ => Bx RF) ⟨nilOps⟩ (fun o _ ih => seqOp ops o (fo o).v ih.v) l

theorem evOps_nil {gl : Nat → Option Nat} {P : Program} {ora : Ora} {ev : Caller} {ops : Array Oper} {s : St} : evOps P gl ora ev ops [] s = some [(.normal, s)] := by unfold evOps; rfl
theorem evOps_cons {gl : Nat → Option Nat} {P : Program} {ora : Ora} {ev : Caller} {ops : Array Oper} {o : Oper} {rest : List Oper} {s : St} : evOps P gl ora ev ops (o :: rest) s =
    (let go (s : St) : Option Outs := bindO (evOper P gl ora ev o s) fun (k, s') => match k with
      | .normal => evOps P gl ora ev ops rest s'
      | k => some [(k, s')]
    match wantSV ops s.tm o with
    | .yes => go s
    | .no => evOps P gl ora ev ops rest (s.put o.dst (.tup []))
    | .iff c => match known s.pc c with
      | some true => go s
      | some false => evOps P gl ora ev ops rest (s.put o.dst (.tup []))
      | none => apO (go (s.assume [c])) (evOps P gl ora ev ops rest ((s.assume [.not c]).put o.dst (.tup [])))
    | .dunno => none) := by
  conv => lhs; unfold evOps
  simp only [putK_eq]
  cases wantSV ops s.tm o with
  | iff c =>
    simp only
    cases known s.pc c with
    | none =>
      simp only
      generalize bindO (evOper P gl ora ev o (s.assume [c])) _ = a
      generalize evOps P gl ora ev ops rest ((s.assume [.not c]).put o.dst (.tup [])) = b
      cases a <;> cases b <;> rfl
    | some b => cases b <;> rfl
  | _ => rfl

theorem compOps_ok {fo : Oper → Bx OF} (hfo : ∀ o, OpOK C o (fo o).v) (ops : Array Oper) {call : CallK} {ev : Caller} (h : CallOKK call ev) : ∀ (l : List Oper) (s : St) (k : KO),
    (compOps fo ops l).v call s k = bindO (evOps C.P C.gl C.ora ev ops l s) (unc k)
  | [], s, k => by rw [evOps_nil, bindO_one]; rfl
  | o :: rest, s, k => by
    have ih := compOps_ok hfo ops h rest
    have hgo : ∀ s, goOp (fo o).v (compOps fo ops rest).v call s k = bindO (bindO (evOper C.P C.gl C.ora ev o s) fun (k, s') => match k with
      | .normal => evOps C.P C.gl C.ora ev ops rest s'
      | k => some [(k, s')]) (unc k) := by
      intro s
      rw [bindO_assoc, evOper_go C]
      show (fo o).v call s _ _ = _
      rw [hfo o call ev h]
      refine bindO_congr _ fun x => ?_
      obtain ⟨e, s'⟩ := x
      cases e with
      | normal => exact ih s' k
      | _ => exact (bindO_one _ _).symm
    have hskip : ∀ s, skipOp o.dst (compOps fo ops rest).v call s k = bindO (evOps C.P C.gl C.ora ev ops rest (s.put o.dst (.tup []))) (unc k) := by
      intro s; unfold skipOp; rw [putK_eq, ih]
    rw [evOps_cons]
    show (seqOp ops o (fo o).v (compOps fo ops rest).v).v call s k = _
    unfold seqOp
    cases hg : o.guard with
    | none =>
      have hw : wantSV ops s.tm o = .yes := by unfold wantSV; rw [hg]
      rw [hw]; exact hgo s
    | some g =>
      show rdW (wantSV ops s.tm o) _ _ _ = _
      cases hw : wantSV ops s.tm o with
      | yes => exact hgo s
      | no => exact hskip s
      | dunno => rfl
      | iff c =>
        show ifOp c o.dst _ _ call s k = _
        unfold ifOp
        simp only
        cases known s.pc c with
        | some b => cases b with
          | true => exact hgo s
          | false => exact hskip s
        | none => simp only; rw [bindO_apO, hgo, ih]

/-! ## code -/

noncomputable def mgK (body : KO → R1) (k : KO) : R1 := Bool.rec (motive := fun _ => (KO → R1) → KO → R1) (fun b k => b k) (fun b k => bindO ((b retO).map mrgOuts) (unc k)) C.mg body k
theorem mgK_eq {body : KO → R1} {l : R1} (h : ∀ k, body k = bindO l (unc k)) (k : KO) : mgK C body k = bindO (l.map (mgO C.mg)) (unc k) := by
  unfold mgK
  cases C.mg with
  | false =>
    show body k = _
    rw [h]; congr 1; cases l <;> rfl
  | true =>
    show bindO ((body retO).map mrgOuts) (unc k) = _
    rw [h, bindO_retO]; rfl

noncomputable def seqK (fa fb : CF) : CF := fun lv s k => lvK lv fun _ prev => fa prev s fun e s => normK e (fb prev s k) fun e => k e s
noncomputable def blkC (id : Nat) (k : KO) : KO := fun e s =>
  OK.rec (motive := fun _ => (Nat → R1) → R1) (fun _ => k .normal s) (fun n f => f n) (fun _ => k .ret s) (fun _ => k .bad s) e fun n => boolR (Nat.beq n id) (k .normal s) (k (.exit n) s)
noncomputable def blkK (id : Nat) (f : CF) : CF := fun lv s k => lvK lv fun _ prev => mgK C (fun k => f prev s (blkC id k)) k
noncomputable def loopK (f : CF) : CF := fun lv =>
  Lv.rec (motive := fun _ => St → KO → R1) (fun _ _ => none) (fun _ prev ih s k => f prev s fun e s => normK e (ih s k) fun e => k e s) lv
/-- A branch whose test is not told at once. -/
noncomputable def condX (x : X) (fa fb : CF) (prev : Lv) (s : St) (k : KO) : R1 :=
  match known s.pc x with
  | some true => fa prev s k
  | some false => fb prev s k
  | none => mgK C (fun k => apO (fa prev (s.assume [x]) k) (fb prev (s.assume [.not x]) k)) k
noncomputable def svBool (v : SV) (n : R1) (f : X → R1) : R1 :=
  SV.rec (motive_1 := fun _ => R1 → (X → R1) → R1) (motive_2 := fun _ => Unit) (fun n _ => n) (fun x _ f => f x) (fun _ _ n _ => n) (fun _ n _ => n) (fun _ n _ => n) (fun _ _ _ n _ => n) (fun _ n _ => n) (fun _ _ _ _ _ n _ => n) (fun n _ => n) (fun _ _ _ n _ => n) (fun n _ => n) (fun _ _ n _ => n) (fun _ _ n _ => n) (fun _ n _ => n) () (fun _ _ _ _ => ()) v n f
theorem svBool_eq (v : SV) (n : R1) (f : X → R1) : svBool v n f = match v with | .bool x => f x | _ => n := by cases v <;> rfl
noncomputable def xTt (x : X) (n : R1) (f : Bool → R1) : R1 :=
  X.rec (motive := fun _ => R1 → (Bool → R1) → R1) (fun _ n _ => n) (fun _ n _ => n) (fun _ _ _ _ _ _ n _ => n) (fun _ _ _ n _ => n) (fun _ _ _ _ _ _ n _ => n) (fun _ _ _ n _ => n) (fun _ _ _ _ _ n _ => n)
    (fun _ _ n _ => n) (fun _ _ _ _ n _ => n) (fun _ _ _ _ n _ => n) (fun b _ f => f b) (fun _ n _ => n) (fun _ _ _ _ _ n _ => n) (fun _ _ n _ => n) (fun _ _ _ _ n _ => n) (fun _ _ _ n _ => n)
    (fun _ n _ => n) (fun _ n _ => n) (fun _ _ _ _ n _ => n) (fun _ _ _ n _ => n) (fun _ _ _ _ n _ => n) x n f
theorem xTt_eq (x : X) (n : R1) (f : Bool → R1) : xTt x n f = match x with | .tt b => f b | _ => n := by cases x <;> rfl
noncomputable def condK (a : St → SV) (fa fb : CF) : CF := fun lv s k => lvK lv fun _ prev =>
  svBool (a s) none fun x => xTt x (condX C x fa fb prev s k) fun b => boolR b (fa prev s k) (fb prev s k)
noncomputable def regK (f : RF) : CF := fun lv s k => lvK lv fun call _ => mgK C (fun k => f call s k) k
noncomputable def drawK (ops : Array Oper) : CF := fun lv s k => lvK lv fun call _ =>
  bindO (if C.P.follows .mixedOrders && Region.noSelect ops then (evDraw C.P C.gl C.ora (cN call) ops s.hp (preReads C.P C.gl C.ora s.hp ops.toList s.tm) ops.size (Array.replicate ops.size false) s).map (mgO C.mg) else none) (unc k)
noncomputable def oneK (e : OK) : CF := fun lv s k => lvK lv fun _ _ => k e s
noncomputable def noK : CF := fun _ _ _ => none

/-- What the operations of a program are turned into. -/
structure Kit where
  fo : Oper → Bx OF
  rd : Operand → Bx (St → SV)
  en : Func → Bx (St → (SV → R1) → R1)
  ok : ∀ o, OpOK C o (fo o).v
  rdOk : ∀ o s, (rd o).v s = evOperand C.gl s.tm o
  enOk : ∀ fn s k, (en fn).v s k = match evResults C.P fn s with | some v => k v | none => none

variable (K : Kit C)

noncomputable def comp (c : Code) : Bx CF :=
  Code.rec (motive := fun _ => Bx CF) ⟨oneK .normal⟩ (fun _ ops draw => Bool.rec ⟨regK C (compOps K.fo ops ops.toList).v⟩ ⟨drawK C ops⟩ draw) (fun _ _ fa fb => ⟨seqK fa.v fb.v⟩) (fun c _ _ fa fb => ⟨condK C (K.rd c).v fa.v fb.v⟩)
    (fun id _ f => ⟨blkK C id f.v⟩) (fun _ f => ⟨loopK f.v⟩) (fun _ _ _ _ _ _ => ⟨noK⟩) (fun id => ⟨oneK (.exit id)⟩) (fun _ _ => ⟨noK⟩) (fun _ => ⟨oneK .normal⟩) (fun _ => ⟨noK⟩) ⟨oneK .ret⟩ (fun _ => ⟨noK⟩) c
/-- A function of the program, turned. -/
inductive FK
  | no
  | mk (fn : Func) (f : CF) (r : St → (SV → R1) → R1)
noncomputable def fkOf (f : Option Func) : FK := match f with
  | some fn => match fn.body with
    | some c => .mk fn (comp C K c).v (K.en fn).v
    | none => .no
  | none => .no
noncomputable def compF (f : FuncId) : Bx FK := ⟨fkOf C K C.P.funcs[f]?⟩

noncomputable def fkRun (x : FK) (f : Func → CF → (St → (SV → R1) → R1) → R1) : R1 :=
  FK.rec (motive := fun _ => (Func → CF → (St → (SV → R1) → R1) → R1) → R1) (fun _ => none) (fun fn cf r f => f fn cf r) x f

/-- At the end of a function. -/
noncomputable def endK (r : St → (SV → R1) → R1) (k : Ret → R1) : KO := fun e s =>
  OK.rec (motive := fun _ => R1 → R1 → R1) (fun a _ => a) (fun _ _ _ => none) (fun a _ => a) (fun _ b => b) e (r s fun v => k (some v, s.hp, s.pc)) (k (none, s.hp, s.pc))

def argsK (args : List SV) (i : Nat) (t : Tm) (k : Tm → R1) : R1 := match args with
  | [] => k t
  | v :: l => Tm.putK v t i fun t => argsK l (i + 1) t k
theorem argsK_eq : ∀ (l : List SV) (i : Nat) (t : Tm) (k : Tm → R1), argsK l i t k = k (argsT l i t)
  | [], _, _, _ => rfl
  | v :: l, i, t, k => by
    unfold argsK argsT
    rw [Tm.putK_eq, argsK_eq l]

noncomputable def runFK (lv : Lv) (args : List SV) (h : Hp) (pc : List X) (k : Ret → R1) (x : FK) : R1 :=
  fkRun x fun fn cf r => Bool.rec (motive := fun _ => R1)
    (fcN (max fn.ntmps args.length) fun nt => argsK args 0 Tm.nil fun tm => cf lv ⟨tm, nt, h, pc⟩ (endK r k))
    (bindO ((bindO (fcN (max fn.ntmps args.length) fun nt => argsK args 0 Tm.nil fun tm => cf lv ⟨tm, nt, h, pc⟩ retO) (evEnd C.P fn)).map (mgR true)) k)
    C.mg

noncomputable def evFK (lv : Lv) : CallK := fun f args h pc k =>
  Option.rec (motive := fun _ => R1) (runFK C lv args h pc k (compF C K f).v) (fun r => bindO (some r) k) (C.hk f args h pc)

noncomputable def lev (n : Nat) : Lv := Nat.rec (motive := fun _ => Lv) .z (fun _ ih => .s (evFK C K ih) ih) n

theorem lev_succ (n : Nat) : lev C K (n + 1) = .s (evFK C K (lev C K n)) (lev C K n) := rfl

theorem endK_eq {fn : Func} (k : Ret → R1) (x : OK × St) : unc (endK (K.en fn).v k) x = bindO (evEnd C.P fn x) k := by
  obtain ⟨e, s⟩ := x
  have hr : ((K.en fn).v s fun v => k (some v, s.hp, s.pc)) = bindO (match evResults C.P fn s with | none => none | some v => fcV v fun v => some [(some v, s.hp, s.pc)]) k := by
    rw [K.enOk]
    cases evResults C.P fn s with
    | none => rfl
    | some v => simp only [fcV_eq]; exact (bindO_one _ _).symm
  cases e with
  | normal => exact hr
  | ret => exact hr
  | exit n => rfl
  | bad => exact (bindO_one _ _).symm

theorem blkC_eq (id : Nat) (k : KO) (x : OK × St) : unc (blkC id k) x = unc k ((fun x : OK × St => match x with
    | (k, s') => match k with
      | .exit i => if i = id then ((.normal, s') : OK × St) else (.exit i, s')
      | k => (k, s')) x) := by
  obtain ⟨e, s⟩ := x
  cases e with
  | exit n =>
    show boolR (Nat.beq n id) (k .normal s) (k (.exit n) s) = _
    rw [boolR_eq]
    simp only [Nat.beq_eq]
    by_cases h : n = id
    · simp only [h, if_true]; rfl
    · simp only [h, if_false]; rfl
  | _ => rfl

theorem normK_bind (x : OK × St) (f : St → R1) (g : St → Option Outs) (k : KO) (h : ∀ s, f s = bindO (g s) (unc k)) :
    (normK x.1 (f x.2) fun e => k e x.2) = bindO (match x with | (k, s') => match k with | .normal => g s' | k => some [(k, s')]) (unc k) := by
  obtain ⟨e, s⟩ := x
  cases e with
  | normal => exact h s
  | _ => exact (bindO_one _ _).symm

/-- **THE SAME**: turned code does as the evaluator does. -/
theorem comp_ok : ∀ (n : Nat) (c : Code) (s : St) (k : KO), (comp C K c).v (lev C K n) s k = bindO (evC C n c s) (unc k)
  | 0, c, s, k => by
    have h0 : evC C 0 c s = none := by unfold evC; rfl
    rw [h0]
    cases c with
    | region id ops draw => cases draw <;> rfl
    | _ => rfl
  | n + 1, c, s, k => by
    have ih := comp_ok n
    have hcall : CallOKK (evFK C K (lev C K n)) (evF C.P C.mg C.hk (evC C n)) := by
      intro f args h pc k
      unfold evF
      show Option.rec (motive := fun _ => R1) _ _ (C.hk f args h pc) = _
      cases C.hk f args h pc with
      | some r => rfl
      | none =>
        show runFK C (lev C K n) args h pc k (fkOf C K C.P.funcs[f]?) = _
        cases hf : C.P.funcs[f]? with
        | none => rfl
        | some fn =>
          simp only [fkOf]
          cases hb : fn.body with
          | none => rfl
          | some c =>
            simp only [runFK, fkRun, fcN_eq, argsK_eq]
            cases hm : C.mg with
            | false =>
              simp only
              rw [ih, bindO_congr _ (endK_eq C K k), ← bindO_assoc]
              congr 1
              cases bindO (evC C n c _) (evEnd C.P fn) <;> rfl
            | true =>
              simp only
              rw [ih, bindO_retO]
    rw [lev_succ]
    cases c with
    | skip => unfold evC; exact (bindO_one _ _).symm
    | label l => unfold evC; exact (bindO_one _ _).symm
    | exit id => unfold evC; exact (bindO_one _ _).symm
    | ret => unfold evC; exact (bindO_one _ _).symm
    | goto l => unfold evC; rfl
    | refuse w => unfold evC; rfl
    | scope b => unfold evC; rfl
    | rangeFunc f p a b => unfold evC; rfl
    | region id ops draw =>
      unfold evC
      cases draw with
      | false =>
        show mgK C (fun k => (compOps K.fo ops ops.toList).v _ s k) k = _
        rw [mgK_eq C (fun k => compOps_ok C K.ok ops hcall ops.toList s k)]
        rfl
      | true =>
        show bindO _ (unc k) = bindO _ (unc k)
        simp only [cN_eq hcall, if_true]
    | seq a b =>
      unfold evC
      show (comp C K a).v (lev C K n) s _ = _
      rw [ih, bindO_assoc]
      exact bindO_congr _ fun x => normK_bind x _ _ k fun s => ih b s k
    | block id b =>
      unfold evC
      show mgK C (fun k => (comp C K b).v (lev C K n) s (blkC id k)) k = _
      rw [mgK_eq C (l := (evC C n b s).map (List.map fun x : OK × St => match x with
        | (k, s') => match k with
          | .exit i => if i = id then ((.normal, s') : OK × St) else (.exit i, s')
          | k => (k, s')))]
      · simp only [Option.map_map]; rfl
      · intro k
        rw [ih, bindO_map]
        exact bindO_congr _ fun x => blkC_eq id k x
    | loop b =>
      unfold evC
      show (comp C K b).v (lev C K n) s _ = _
      rw [ih, bindO_assoc]
      exact bindO_congr _ fun x => normK_bind x (fun s => loopK (comp C K b).v (lev C K n) s k) _ k fun s => ih (.loop b) s k
    | cond c a b =>
      unfold evC
      show svBool ((K.rd c).v s) none _ = _
      rw [svBool_eq, K.rdOk]
      dsimp only
      cases evOperand C.gl s.tm c with
      | bool x =>
        simp only
        have hX : condX C x (comp C K a).v (comp C K b).v (lev C K n) s k = bindO (match known s.pc x with
            | some true => evC C n a s
            | some false => evC C n b s
            | none => match evC C n a (s.assume [x]), evC C n b (s.assume [.not x]) with
              | some l, some r => some (mgO C.mg (l ++ r))
              | _, _ => none) (unc k) := by
          unfold condX
          cases known s.pc x with
          | some b' => cases b' with
            | true => exact ih a s k
            | false => exact ih b s k
          | none =>
            simp only
            rw [mgK_eq C (l := apO (evC C n a (s.assume [x])) (evC C n b (s.assume [.not x])))]
            · cases evC C n a (s.assume [x]) <;> cases evC C n b (s.assume [.not x]) <;> rfl
            · intro k; rw [ih, ih, bindO_apO]
        rw [xTt_eq]
        split
        · rename_i b'
          have : known s.pc (.tt b') = some b' := by unfold known; rfl
          simp only [this, boolR_eq]
          cases b' with
          | true => exact ih a s k
          | false => exact ih b s k
        · exact hX
      | _ => rfl
end

end Go.Sy
