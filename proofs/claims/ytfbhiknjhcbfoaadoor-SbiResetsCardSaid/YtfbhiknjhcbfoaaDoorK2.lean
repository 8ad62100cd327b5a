/- The evaluator for the kernel: operations. -/
import Derived.Test.YtfbhiknjhcbfoaaDoorK1

namespace Go.Sy

/-! ## one way at a time -/

noncomputable def svInt (v : SV) (n : R1) (f : (IntKind → X → R1)) : R1 :=
  SV.rec (motive_1 := fun _ => R1 → (IntKind → X → R1) → R1) (motive_2 := fun _ => Unit) (fun n _ => n) (fun _ n _ => n) (fun x0 x1 _ f => f x0 x1) (fun _ n _ => n) (fun _ n _ => n) (fun _ _ _ n _ => n) (fun _ n _ => n) (fun _ _ _ _ _ n _ => n) (fun n _ => n) (fun _ _ _ n _ => n) (fun n _ => n) (fun _ _ n _ => n) (fun _ _ n _ => n) (fun _ n _ => n) () (fun _ _ _ _ => ()) v n f
theorem svInt_eq (v : SV) (n : R1) (f : (IntKind → X → R1)) : svInt v n f = match v with | .int x0 x1 => f x0 x1 | _ => n := by cases v <;> rfl
noncomputable def svStr (v : SV) (n : R1) (f : (X → R1)) : R1 :=
  SV.rec (motive_1 := fun _ => R1 → (X → R1) → R1) (motive_2 := fun _ => Unit) (fun n _ => n) (fun _ n _ => n) (fun _ _ n _ => n) (fun x0 _ f => f x0) (fun _ n _ => n) (fun _ _ _ n _ => n) (fun _ n _ => n) (fun _ _ _ _ _ n _ => n) (fun n _ => n) (fun _ _ _ n _ => n) (fun n _ => n) (fun _ _ n _ => n) (fun _ _ n _ => n) (fun _ n _ => n) () (fun _ _ _ _ => ()) v n f
theorem svStr_eq (v : SV) (n : R1) (f : (X → R1)) : svStr v n f = match v with | .str x0 => f x0 | _ => n := by cases v <;> rfl
noncomputable def svPtr0 (v : SV) (n : R1) (f : (Option (Nat × Nat) → R1)) : R1 :=
  SV.rec (motive_1 := fun _ => R1 → (Option (Nat × Nat) → R1) → R1) (motive_2 := fun _ => Unit) (fun n _ => n) (fun _ n _ => n) (fun _ _ n _ => n) (fun _ n _ => n) (fun x0 _ f => f x0) (fun _ _ _ n _ => n) (fun _ n _ => n) (fun _ _ _ _ _ n _ => n) (fun n _ => n) (fun _ _ _ n _ => n) (fun n _ => n) (fun _ _ n _ => n) (fun _ _ n _ => n) (fun _ n _ => n) () (fun _ _ _ _ => ()) v n f
theorem svPtr0_eq (v : SV) (n : R1) (f : (Option (Nat × Nat) → R1)) : svPtr0 v n f = match v with | .ptr x0 => f x0 | _ => n := by cases v <;> rfl
noncomputable def svSl (v : SV) (n : R1) (f : (Option (Nat × Nat) → Nat → CX → R1)) : R1 :=
  SV.rec (motive_1 := fun _ => R1 → (Option (Nat × Nat) → Nat → CX → R1) → R1) (motive_2 := fun _ => Unit) (fun n _ => n) (fun _ n _ => n) (fun _ _ n _ => n) (fun _ n _ => n) (fun _ n _ => n) (fun x0 x1 x2 _ f => f x0 x1 x2) (fun _ n _ => n) (fun _ _ _ _ _ n _ => n) (fun n _ => n) (fun _ _ _ n _ => n) (fun n _ => n) (fun _ _ n _ => n) (fun _ _ n _ => n) (fun _ n _ => n) () (fun _ _ _ _ => ()) v n f
theorem svSl_eq (v : SV) (n : R1) (f : (Option (Nat × Nat) → Nat → CX → R1)) : svSl v n f = match v with | .sl x0 x1 x2 => f x0 x1 x2 | _ => n := by cases v <;> rfl
noncomputable def svMap (v : SV) (n : R1) (f : (Option Nat → R1)) : R1 :=
  SV.rec (motive_1 := fun _ => R1 → (Option Nat → R1) → R1) (motive_2 := fun _ => Unit) (fun n _ => n) (fun _ n _ => n) (fun _ _ n _ => n) (fun _ n _ => n) (fun _ n _ => n) (fun _ _ _ n _ => n) (fun x0 _ f => f x0) (fun _ _ _ _ _ n _ => n) (fun n _ => n) (fun _ _ _ n _ => n) (fun n _ => n) (fun _ _ n _ => n) (fun _ _ n _ => n) (fun _ n _ => n) () (fun _ _ _ _ => ()) v n f
theorem svMap_eq (v : SV) (n : R1) (f : (Option Nat → R1)) : svMap v n f = match v with | .map x0 => f x0 | _ => n := by cases v <;> rfl
noncomputable def svFunc (v : SV) (n : R1) (f : (Fn → List SV → List SV → R1)) : R1 :=
  SV.rec (motive_1 := fun _ => R1 → (Fn → List SV → List SV → R1) → R1) (motive_2 := fun _ => Unit) (fun n _ => n) (fun _ n _ => n) (fun _ _ n _ => n) (fun _ n _ => n) (fun _ n _ => n) (fun _ _ _ n _ => n) (fun _ n _ => n) (fun x0 x1 x2 _ _ _ f => f x0 x1 x2) (fun n _ => n) (fun _ _ _ n _ => n) (fun n _ => n) (fun _ _ n _ => n) (fun _ _ n _ => n) (fun _ n _ => n) () (fun _ _ _ _ => ()) v n f
theorem svFunc_eq (v : SV) (n : R1) (f : (Fn → List SV → List SV → R1)) : svFunc v n f = match v with | .func x0 x1 x2 => f x0 x1 x2 | _ => n := by cases v <;> rfl
noncomputable def svAgg (v : SV) (n : R1) (f : (List SV → R1)) : R1 :=
  SV.rec (motive_1 := fun _ => R1 → (List SV → R1) → R1) (motive_2 := fun _ => Unit) (fun n _ => n) (fun _ n _ => n) (fun _ _ n _ => n) (fun _ n _ => n) (fun _ n _ => n) (fun _ _ _ n _ => n) (fun _ n _ => n) (fun _ _ _ _ _ n _ => n) (fun n _ => n) (fun _ _ _ n _ => n) (fun n _ => n) (fun x0 _ _ f => f x0) (fun _ _ n _ => n) (fun _ n _ => n) () (fun _ _ _ _ => ()) v n f
theorem svAgg_eq (v : SV) (n : R1) (f : (List SV → R1)) : svAgg v n f = match v with | .agg x0 => f x0 | _ => n := by cases v <;> rfl
noncomputable def svTup (v : SV) (n : R1) (f : (List SV → R1)) : R1 :=
  SV.rec (motive_1 := fun _ => R1 → (List SV → R1) → R1) (motive_2 := fun _ => Unit) (fun n _ => n) (fun _ n _ => n) (fun _ _ n _ => n) (fun _ n _ => n) (fun _ n _ => n) (fun _ _ _ n _ => n) (fun _ n _ => n) (fun _ _ _ _ _ n _ => n) (fun n _ => n) (fun _ _ _ n _ => n) (fun n _ => n) (fun _ _ n _ => n) (fun x0 _ _ f => f x0) (fun _ n _ => n) () (fun _ _ _ _ => ()) v n f
theorem svTup_eq (v : SV) (n : R1) (f : (List SV → R1)) : svTup v n f = match v with | .tup x0 => f x0 | _ => n := by cases v <;> rfl
noncomputable def xLit (x : X) (n : R1) (f : (Int → R1)) : R1 :=
  X.rec (motive := fun _ => R1 → (Int → R1) → R1) (fun x0 _ f => f x0) (fun _ n _ => n) (fun _ _ _ _ _ _ n _ => n) (fun _ _ _ n _ => n) (fun _ _ _ _ _ _ n _ => n) (fun _ _ _ n _ => n) (fun _ _ _ _ _ n _ => n) (fun _ _ n _ => n) (fun _ _ _ _ n _ => n) (fun _ _ _ _ n _ => n) (fun _ n _ => n) (fun _ n _ => n) (fun _ _ _ _ _ n _ => n) (fun _ _ n _ => n) (fun _ _ _ _ n _ => n) (fun _ _ _ n _ => n) (fun _ n _ => n) (fun _ n _ => n) (fun _ _ _ _ n _ => n) (fun _ _ _ n _ => n) (fun _ _ _ _ n _ => n) x n f
theorem xLit_eq (x : X) (n : R1) (f : (Int → R1)) : xLit x n f = match x with | .lit x0 => f x0 | _ => n := by cases x <;> rfl
noncomputable def xSl (x : X) (n : R1) (f : (List UInt8 → R1)) : R1 :=
  X.rec (motive := fun _ => R1 → (List UInt8 → R1) → R1) (fun _ n _ => n) (fun _ n _ => n) (fun _ _ _ _ _ _ n _ => n) (fun _ _ _ n _ => n) (fun _ _ _ _ _ _ n _ => n) (fun _ _ _ n _ => n) (fun _ _ _ _ _ n _ => n) (fun _ _ n _ => n) (fun _ _ _ _ n _ => n) (fun _ _ _ _ n _ => n) (fun _ n _ => n) (fun _ n _ => n) (fun _ _ _ _ _ n _ => n) (fun _ _ n _ => n) (fun _ _ _ _ n _ => n) (fun _ _ _ n _ => n) (fun x0 _ f => f x0) (fun _ n _ => n) (fun _ _ _ _ n _ => n) (fun _ _ _ n _ => n) (fun _ _ _ _ n _ => n) x n f
theorem xSl_eq (x : X) (n : R1) (f : (List UInt8 → R1)) : xSl x n f = match x with | .sl x0 => f x0 | _ => n := by cases x <;> rfl
noncomputable def xIte (x : X) (n : R1) (f : (X → X → X → R1)) : R1 :=
  X.rec (motive := fun _ => R1 → (X → X → X → R1) → R1) (fun _ n _ => n) (fun _ n _ => n) (fun _ _ _ _ _ _ n _ => n) (fun _ _ _ n _ => n) (fun x0 x1 x2 _ _ _ _ f => f x0 x1 x2) (fun _ _ _ n _ => n) (fun _ _ _ _ _ n _ => n) (fun _ _ n _ => n) (fun _ _ _ _ n _ => n) (fun _ _ _ _ n _ => n) (fun _ n _ => n) (fun _ n _ => n) (fun _ _ _ _ _ n _ => n) (fun _ _ n _ => n) (fun _ _ _ _ n _ => n) (fun _ _ _ n _ => n) (fun _ n _ => n) (fun _ n _ => n) (fun _ _ _ _ n _ => n) (fun _ _ _ n _ => n) (fun _ _ _ _ n _ => n) x n f
theorem xIte_eq (x : X) (n : R1) (f : (X → X → X → R1)) : xIte x n f = match x with | .ite x0 x1 x2 => f x0 x1 x2 | _ => n := by cases x <;> rfl
noncomputable def svOne (v : SV) (n t : R1) : R1 :=
  SV.rec (motive_1 := fun _ => R1 → R1 → R1) (motive_2 := fun _ => Unit) (fun n _ => n) (fun _ _ t => t) (fun _ _ _ t => t) (fun _ _ t => t) (fun _ _ t => t) (fun _ _ _ _ t => t) (fun _ _ t => t) (fun _ _ _ _ _ _ t => t) (fun _ t => t) (fun _ _ _ _ t => t) (fun _ t => t) (fun _ _ n _ => n) (fun _ _ n _ => n) (fun _ n _ => n) () (fun _ _ _ _ => ()) v n t
theorem svOne_eq (v : SV) (n t : R1) : svOne v n t = if v.one then t else n := by cases v <;> rfl

/-! ## slots: read and written -/

noncomputable def N8.recR {α : Type} (x : N8 α) (v : α) (k : N8 α → R1) (f : α → (N8 α → R1) → α → α → α → α → α → α → α → α → R1) : R1 :=
  N8.rec (motive := fun _ => R1) (fun a b c d e g h i => f v k a b c d e g h i) x
noncomputable def N8.u0 {α : Type} (x : N8 α) (v : α) (k : N8 α → R1) : R1 := N8.rec (motive := fun _ => α → (N8 α → R1) → R1) (fun _ b c d e f g h v k => k ⟨v, b, c, d, e, f, g, h⟩) x v k
noncomputable def N8.u1 {α : Type} (x : N8 α) (v : α) (k : N8 α → R1) : R1 := N8.rec (motive := fun _ => α → (N8 α → R1) → R1) (fun a _ c d e f g h v k => k ⟨a, v, c, d, e, f, g, h⟩) x v k
noncomputable def N8.u2 {α : Type} (x : N8 α) (v : α) (k : N8 α → R1) : R1 := N8.rec (motive := fun _ => α → (N8 α → R1) → R1) (fun a b _ d e f g h v k => k ⟨a, b, v, d, e, f, g, h⟩) x v k
noncomputable def N8.u3 {α : Type} (x : N8 α) (v : α) (k : N8 α → R1) : R1 := N8.rec (motive := fun _ => α → (N8 α → R1) → R1) (fun a b c _ e f g h v k => k ⟨a, b, c, v, e, f, g, h⟩) x v k
noncomputable def N8.u4 {α : Type} (x : N8 α) (v : α) (k : N8 α → R1) : R1 := N8.rec (motive := fun _ => α → (N8 α → R1) → R1) (fun a b c d _ f g h v k => k ⟨a, b, c, d, v, f, g, h⟩) x v k
noncomputable def N8.u5 {α : Type} (x : N8 α) (v : α) (k : N8 α → R1) : R1 := N8.rec (motive := fun _ => α → (N8 α → R1) → R1) (fun a b c d e _ g h v k => k ⟨a, b, c, d, e, v, g, h⟩) x v k
noncomputable def N8.u6 {α : Type} (x : N8 α) (v : α) (k : N8 α → R1) : R1 := N8.rec (motive := fun _ => α → (N8 α → R1) → R1) (fun a b c d e f _ h v k => k ⟨a, b, c, d, e, f, v, h⟩) x v k
noncomputable def N8.u7 {α : Type} (x : N8 α) (v : α) (k : N8 α → R1) : R1 := N8.rec (motive := fun _ => α → (N8 α → R1) → R1) (fun a b c d e f g _ v k => k ⟨a, b, c, d, e, f, g, v⟩) x v k

/-- Which of eight: how it is read, and how it is written. -/
noncomputable def pick8 {α β : Type} (d : Nat) (k : (N8 α → α) → (N8 α → α → (N8 α → R1) → R1) → β) : β :=
  by8 d (k N8.a N8.u0) (k N8.b N8.u1) (k N8.c N8.u2) (k N8.d N8.u3) (k N8.e N8.u4) (k N8.f N8.u5) (k N8.g N8.u6) (k N8.h N8.u7)
theorem pick8_spec {α β : Type} (d : Nat) (P : β → Prop) (k : (N8 α → α) → (N8 α → α → (N8 α → R1) → R1) → β)
    (h : ∀ (f : N8 α → α) (u : N8 α → α → (N8 α → R1) → R1), (∀ x, f x = x.sel d) → (∀ x v c, u x v c = c (x.upd d v)) → P (k f u)) : P (pick8 d k) := by
  have hh : ∀ (f : N8 α → α) (u : N8 α → α → (N8 α → R1) → R1), ((fun x => f x) = fun x => x.sel d) → ((fun x v c => u x v c) = fun x v c => c (x.upd d v)) → P (k f u) := fun f u h1 h2 => h f u (fun x => congrFun h1 x) fun x v c => congrFun (congrFun (congrFun h2 x) v) c
  revert hh
  unfold pick8 N8.sel N8.upd by8
  cases Nat.ble 4 d <;> cases Nat.ble 2 d <;> cases Nat.beq d 0 <;> cases Nat.beq d 2 <;> cases Nat.ble 6 d <;> cases Nat.beq d 4 <;> cases Nat.beq d 6 <;> (intro hh; exact hh _ _ rfl rfl)

abbrev VF := St → SV
abbrev WF := SV → St → (St → R1) → R1

def rd3 (f : N8 (N8 (N8 SV)) → N8 (N8 SV)) (g : N8 (N8 SV) → N8 SV) (h : N8 SV → SV) : VF := fun s => h (g (f s.tm))
def constV (v : SV) : VF := fun _ => v
noncomputable def rdT (t : Nat) : Bx VF := match Nat.ble 512 t with
  | true => ⟨constV .bad⟩
  | false => pick8 (t / 64) fun f _ => pick8 (t / 8 % 8) fun g _ => pick8 (t % 8) fun h _ => ⟨rd3 f g h⟩
theorem rdT_ok (t : Nat) (s : St) : (rdT t).v s = slot s.tm t := by
  unfold rdT slot Tm.get
  cases Nat.ble 512 t with
  | true => rfl
  | false =>
    refine pick8_spec _ (fun b : Bx VF => b.v s = _) _ fun f _ hf _ => ?_
    refine pick8_spec _ (fun b : Bx VF => b.v s = _) _ fun g _ hg _ => ?_
    refine pick8_spec _ (fun b : Bx VF => b.v s = _) _ fun h _ hh _ => ?_
    show h (g (f s.tm)) = _
    rw [hh, hg, hf]

noncomputable def rdO (gl : Nat → Option Nat) (x : Operand) : Bx VF := match x with
  | .tmp t => rdT t
  | .const v => fcV (ofV v) fun v => ⟨constV v⟩
  | .global g => match gl g with
    | some i => ⟨constV (.ptr (some (i, 0)))⟩
    | none => ⟨constV .bad⟩
  | .func f => ⟨constV (.func (.func f) [] [])⟩
theorem rdO_ok (gl : Nat → Option Nat) (x : Operand) (s : St) : (rdO gl x).v s = evOperand gl s.tm x := by
  cases x with
  | tmp t => exact rdT_ok t s
  | const v => simp only [rdO, fcV_eq]; rfl
  | global g => simp only [rdO, evOperand]; cases gl g <;> rfl
  | func f => rfl

noncomputable def stR (s : St) (f : Tm → Nat → Hp → List X → R1) : R1 := St.rec (motive := fun _ => (Tm → Nat → Hp → List X → R1) → R1) (fun a b c d f => f a b c d) s f
noncomputable def hpR (h : Hp) (f : T SO → Nat → Nat → R1) : R1 := Hp.rec (motive := fun _ => (T SO → Nat → Nat → R1) → R1) (fun a b c f => f a b c) h f

noncomputable def wr3 (t : Nat) (f : N8 (N8 (N8 SV)) → N8 (N8 SV)) (u1 : N8 (N8 (N8 SV)) → N8 (N8 SV) → (N8 (N8 (N8 SV)) → R1) → R1) (g : N8 (N8 SV) → N8 SV) (u2 : N8 (N8 SV) → N8 SV → (N8 (N8 SV) → R1) → R1) (u3 : N8 SV → SV → (N8 SV → R1) → R1) : WF := fun v s k =>
  stR s fun tm nt hp pc => boolR (Nat.ble (Nat.succ t) nt) (u3 (g (f tm)) v fun x => u2 (f tm) x fun y => u1 tm y fun tm => k ⟨tm, nt, hp, pc⟩) (k ⟨tm, nt, hp, pc⟩)
def wrNo : WF := fun _ s k => k s
noncomputable def wrT (t : Nat) : Bx WF := match Nat.ble 512 t with
  | true => ⟨wrNo⟩
  | false => pick8 (t / 64) fun f u => pick8 (t / 8 % 8) fun g v => pick8 (t % 8) fun _ w => ⟨wr3 t f u g v w⟩
noncomputable def wrD (d : Option Tmp) : Bx WF := match d with
  | none => ⟨wrNo⟩
  | some t => wrT t
def WrOK (d : Option Tmp) (w : WF) : Prop := ∀ v s k, w v s k = k (s.put d v)
theorem wrD_ok (d : Option Tmp) : WrOK d (wrD d).v := by
  intro v s k
  cases d with
  | none => rfl
  | some t =>
    show (wrT t).v v s k = _
    unfold wrT St.put
    cases hb : Nat.ble 512 t with
    | true =>
      show k s = _
      have : s.tm.put t v = s.tm := by unfold Tm.put; rw [hb]
      simp only
      split
      · rw [this]
      · rfl
    | false =>
      refine pick8_spec _ (fun b : Bx WF => b.v v s k = _) _ fun f u1 hf hu1 => ?_
      refine pick8_spec _ (fun b : Bx WF => b.v v s k = _) _ fun g u2 hg hu2 => ?_
      refine pick8_spec _ (fun b : Bx WF => b.v v s k = _) _ fun h u3 hh hu3 => ?_
      show boolR (Nat.ble (Nat.succ t) s.nt) _ _ = _
      rw [boolR_eq]
      simp only [hu3, hu2, hu1, hf, hg]
      have : s.tm.put t v = s.tm.upd (t / 64) ((s.tm.sel (t / 64)).upd (t / 8 % 8) (((s.tm.sel (t / 64)).sel (t / 8 % 8)).upd (t % 8) v)) := by unfold Tm.put; rw [hb]
      cases Nat.ble (Nat.succ t) s.nt with
      | true => simp only [if_true]; rw [this]
      | false => rfl

/-! ## numbers -/

noncomputable def nnI (x : Int) (n : R1) (f : Nat → R1) : R1 := Int.rec (motive := fun _ => R1 → (Nat → R1) → R1) (fun a _ f => f a) (fun _ n _ => n) x n f
theorem nnI_eq (x : Int) (n : R1) (f : Nat → R1) : nnI x n f = match x with | .ofNat a => f a | _ => n := by cases x <;> rfl
/-- The numbers from 0 up to it are of the kind. -/
noncomputable def lim (k : IntKind) : Nat := IntKind.rec (motive := fun _ => Nat) 128 32768 2147483648 9223372036854775808 256 65536 4294967296 18446744073709551616 k
noncomputable def natR (n : Nat) (k : Nat → R1) : R1 := Nat.rec (motive := fun _ => (Nat → R1) → R1) (fun k => k 0) (fun m _ k => k (Nat.succ m)) n k
theorem natR_eq (n : Nat) (k : Nat → R1) : natR n k = k n := by cases n <;> rfl
noncomputable def intR (n : Int) (k : Int → R1) : R1 := Int.rec (motive := fun _ => (Int → R1) → R1) (fun m k => natR m fun m => k (.ofNat m)) (fun m k => natR m fun m => k (.negSucc m)) n k
theorem intR_eq (n : Int) (k : Int → R1) : intR n k = k n := by cases n <;> simp [intR, natR_eq]

theorem wrap_small (k : IntKind) (n : Nat) (h : n < lim k) : k.wrap (n : Int) = n := by
  cases k <;> simp only [lim] at h <;> simp only [IntKind.wrap, IntKind.bits, IntKind.signed] <;> simp <;> omega

theorem lt_of_ble_false {a b : Nat} (h : Nat.ble a b = false) : b < a := by
  by_cases h2 : a ≤ b
  · have := Nat.ble_eq_true_of_le h2; rw [h] at this; cases this
  · omega

/-- What is worked out, if it is small. -/
noncomputable def smallI (k : IntKind) (c : Nat) (slow : R1) (kont : Int → R1) : R1 := boolR (Nat.ble (lim k) c) slow (natR c fun c => kont (.ofNat c))

abbrev IF := IntKind → Int → Int → (Int → R1) → R1
noncomputable def slowI (op : BinOp) : IF := fun k x y kont => intR (arD op k x y) kont
noncomputable def addI : IF := fun k x y kont => nnI x (slowI .add k x y kont) fun a => nnI y (slowI .add k x y kont) fun b => smallI k (Nat.add a b) (slowI .add k x y kont) kont
noncomputable def mulI : IF := fun k x y kont => nnI x (slowI .mul k x y kont) fun a => nnI y (slowI .mul k x y kont) fun b => smallI k (Nat.mul a b) (slowI .mul k x y kont) kont
noncomputable def subI : IF := fun k x y kont => nnI x (slowI .sub k x y kont) fun a => nnI y (slowI .sub k x y kont) fun b => boolR (Nat.ble b a) (smallI k (Nat.sub a b) (slowI .sub k x y kont) kont) (slowI .sub k x y kont)
noncomputable def quoI : IF := fun k x y kont => nnI x (slowI .quo k x y kont) fun a => nnI y (slowI .quo k x y kont) fun b => smallI k (Nat.div a b) (slowI .quo k x y kont) kont
noncomputable def remI : IF := fun k x y kont => nnI x (slowI .rem k x y kont) fun a => nnI y (slowI .rem k x y kont) fun b => natR (Nat.mod a b) fun c => kont (.ofNat c)
noncomputable def bitI (op : BinOp) (f : Nat → Nat → Nat) : IF := fun k x y kont => nnI x (slowI op k x y kont) fun a => nnI y (slowI op k x y kont) fun b =>
  boolR (Nat.ble (lim k) a) (slowI op k x y kont) (boolR (Nat.ble (lim k) b) (slowI op k x y kont) (natR (f a b) fun c => kont (.ofNat c)))
noncomputable def shrI : IF := fun k x y kont => nnI x (slowI .shr k x y kont) fun a => nnI y (slowI .shr k x y kont) fun b => boolR (Nat.ble b k.bits) (natR (Nat.div a (Nat.pow 2 b)) fun c => kont (.ofNat c)) (slowI .shr k x y kont)
noncomputable def shlI : IF := fun k x y kont => nnI x (slowI .shl k x y kont) fun a => nnI y (slowI .shl k x y kont) fun b => boolR (Nat.ble b k.bits) (smallI k (Nat.mul a (Nat.pow 2 b)) (slowI .shl k x y kont) kont) (slowI .shl k x y kont)

noncomputable def arI (op : BinOp) : Bx IF := match op with
  | .add => ⟨addI⟩ | .sub => ⟨subI⟩ | .mul => ⟨mulI⟩ | .quo => ⟨quoI⟩ | .rem => ⟨remI⟩
  | .and => ⟨bitI .and Nat.land⟩ | .or => ⟨bitI .or Nat.lor⟩ | .xor => ⟨bitI .xor Nat.xor⟩
  | .shr => ⟨shrI⟩ | .shl => ⟨shlI⟩ | op => ⟨slowI op⟩

theorem slowI_eq (op : BinOp) (k : IntKind) (x y : Int) (kont : Int → R1) : slowI op k x y kont = kont (arD op k x y) := intR_eq _ _
theorem smallI_eq {k : IntKind} {c : Nat} {slow : R1} {kont : Int → R1} {z : Int} (hs : slow = kont z) (h : c < lim k → z = c) : smallI k c slow kont = kont z := by
  unfold smallI
  rw [boolR_eq, natR_eq]
  cases hb : Nat.ble (lim k) c with
  | true => exact hs
  | false => rw [h (lt_of_ble_false hb)]; rfl

theorem lim_bits (k : IntKind) : ∃ m, lim k = 2 ^ m ∧ m ≤ k.bits := by
  cases k
  · exact ⟨7, rfl, by decide⟩
  · exact ⟨15, rfl, by decide⟩
  · exact ⟨31, rfl, by decide⟩
  · exact ⟨63, rfl, by decide⟩
  · exact ⟨8, rfl, by decide⟩
  · exact ⟨16, rfl, by decide⟩
  · exact ⟨32, rfl, by decide⟩
  · exact ⟨64, rfl, by decide⟩

theorem bitI_eq {op : BinOp} {f : Nat → Nat → Nat} (hf : ∀ (k : IntKind) (a b : Nat), a < lim k → b < lim k → arD op k a b = (f a b : Nat)) (k : IntKind) (x y : Int) (kont : Int → R1) : bitI op f k x y kont = kont (arD op k x y) := by
  unfold bitI
  simp only [slowI_eq, nnI_eq, boolR_eq, natR_eq]
  cases x with
  | negSucc a => rfl
  | ofNat a => cases y with
    | negSucc b => rfl
    | ofNat b =>
      simp only
      cases ha : Nat.ble (lim k) a with
      | true => rfl
      | false => cases hb : Nat.ble (lim k) b with
        | true => rfl
        | false =>
          simp only [Bool.false_eq_true, if_false]
          have := hf k a b (lt_of_ble_false ha) (lt_of_ble_false hb)
          simp only [Int.ofNat_eq_natCast]
          rw [this]

theorem ofInt_nat (n a : Nat) (_ : a < 2 ^ n) : BitVec.ofInt n (a : Int) = BitVec.ofNat n a := by
  apply BitVec.eq_of_toNat_eq
  simp

theorem arI_ok (op : BinOp) (k : IntKind) (x y : Int) (kont : Int → R1) : (arI op).v k x y kont = kont (arD op k x y) := by
  have hlim : ∀ k : IntKind, lim k ≤ 2 ^ k.bits := by
    intro k; obtain ⟨m, h1, h2⟩ := lim_bits k; rw [h1]; exact Nat.pow_le_pow_right (by decide) h2
  cases op <;> simp only [arI] <;> try exact slowI_eq _ _ _ _ _
  · -- add
    unfold addI; simp only [slowI_eq, nnI_eq]
    cases x <;> cases y <;> try rfl
    rename_i a b
    exact smallI_eq rfl fun h => by simp only [arD]; exact wrap_small k _ h
  · unfold subI; simp only [slowI_eq, nnI_eq]
    cases x <;> cases y <;> try rfl
    rename_i a b
    simp only [boolR_eq]
    cases hb : Nat.ble b a with
    | false => rfl
    | true =>
      have := Nat.le_of_ble_eq_true hb
      simp only [if_true]
      exact smallI_eq rfl fun h => by
        simp only [arD, Int.ofNat_eq_natCast]
        rw [show ((a : Int) - (b : Int)) = ((Nat.sub a b : Nat) : Int) from by show _ = ((a - b : Nat) : Int); omega]
        exact wrap_small k _ h
  · unfold mulI; simp only [slowI_eq, nnI_eq]
    cases x <;> cases y <;> try rfl
    rename_i a b
    exact smallI_eq rfl fun h => by
      simp only [arD, Int.ofNat_eq_natCast]
      rw [show ((a : Int) * (b : Int)) = ((Nat.mul a b : Nat) : Int) from by show _ = ((a * b : Nat) : Int); rw [Int.natCast_mul]]
      exact wrap_small k _ h
  · unfold quoI; simp only [slowI_eq, nnI_eq]
    cases x <;> cases y <;> try rfl
    rename_i a b
    exact smallI_eq rfl fun h => by
      simp only [arD]
      rw [show (Int.ofNat a).tdiv (Int.ofNat b) = ((Nat.div a b : Nat) : Int) from rfl]
      exact wrap_small k _ h
  · unfold remI; simp only [slowI_eq, nnI_eq, natR_eq]
    cases x <;> cases y <;> try rfl
  · refine bitI_eq (fun k a b ha hb => ?_) k x y kont
    have h1 := Nat.lt_of_lt_of_le ha (hlim k)
    have h2 := Nat.lt_of_lt_of_le hb (hlim k)
    simp only [arD, ofInt_nat _ _ h1, ofInt_nat _ _ h2]
    rw [BitVec.toNat_and, BitVec.toNat_ofNat, BitVec.toNat_ofNat, Nat.mod_eq_of_lt h1, Nat.mod_eq_of_lt h2]
    exact wrap_small k _ (Nat.lt_of_le_of_lt Nat.and_le_left ha)
  · refine bitI_eq (fun k a b ha hb => ?_) k x y kont
    have h1 := Nat.lt_of_lt_of_le ha (hlim k)
    have h2 := Nat.lt_of_lt_of_le hb (hlim k)
    simp only [arD, ofInt_nat _ _ h1, ofInt_nat _ _ h2]
    rw [BitVec.toNat_or, BitVec.toNat_ofNat, BitVec.toNat_ofNat, Nat.mod_eq_of_lt h1, Nat.mod_eq_of_lt h2]
    obtain ⟨m, hm, _⟩ := lim_bits k
    rw [hm] at ha hb
    exact wrap_small k _ (by rw [hm]; exact Nat.or_lt_two_pow ha hb)
  · refine bitI_eq (fun k a b ha hb => ?_) k x y kont
    have h1 := Nat.lt_of_lt_of_le ha (hlim k)
    have h2 := Nat.lt_of_lt_of_le hb (hlim k)
    simp only [arD, ofInt_nat _ _ h1, ofInt_nat _ _ h2]
    rw [BitVec.toNat_xor, BitVec.toNat_ofNat, BitVec.toNat_ofNat, Nat.mod_eq_of_lt h1, Nat.mod_eq_of_lt h2]
    obtain ⟨m, hm, _⟩ := lim_bits k
    rw [hm] at ha hb
    exact wrap_small k _ (by rw [hm]; exact Nat.xor_lt_two_pow ha hb)
  · -- shl
    unfold shlI; simp only [slowI_eq, nnI_eq]
    cases x <;> cases y <;> try rfl
    rename_i a b
    simp only [boolR_eq]
    cases hb : Nat.ble b k.bits with
    | false => rfl
    | true =>
      have := Nat.le_of_ble_eq_true hb
      simp only [if_true]
      exact smallI_eq rfl fun h => by
        simp only [arD, Int.ofNat_eq_natCast, Int.toNat_natCast, Nat.min_eq_left this]
        rw [show ((a : Int) * 2 ^ b) = ((Nat.mul a (Nat.pow 2 b) : Nat) : Int) from by
          show _ = ((a * 2 ^ b : Nat) : Int); rw [Int.natCast_mul, Int.natCast_pow]; rfl]
        exact wrap_small k _ h
  · unfold shrI; simp only [slowI_eq, nnI_eq, natR_eq]
    cases x <;> cases y <;> try rfl
    rename_i a b
    simp only [boolR_eq]
    cases hb : Nat.ble b k.bits with
    | false => rfl
    | true =>
      have := Nat.le_of_ble_eq_true hb
      simp only [if_true]
      congr 1
      simp only [arD, Int.ofNat_eq_natCast, Int.toNat_natCast, Nat.min_eq_left this]
      show ((a / 2 ^ b : Nat) : Int) = _
      rw [Int.natCast_ediv, Int.natCast_pow]
      rw [Int.fdiv_eq_ediv_of_nonneg]
      · rfl
      · exact Int.le_of_lt (Int.pow_pos (by decide))

end Go.Sy
