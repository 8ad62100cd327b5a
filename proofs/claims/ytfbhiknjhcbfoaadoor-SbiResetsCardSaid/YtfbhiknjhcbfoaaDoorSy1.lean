/- A symbolic evaluator for the model's programs: definitions. -/
import Derived.WalkKit
import Derived.Orders
import Derived.OrdersHeld
import Derived.Still
namespace Go.Sy

/-! ## symbolic terms -/

inductive X
  | lit (n : Int)
  | var (i : Nat)
  | ar (op : BinOp) (k : IntKind) (a b : X)
  | cv (k : IntKind) (a : X)
  | ite (c a b : X)
  | ap1 (f : Nat) (a : X)
  | ap2 (f : Nat) (a b : X)
  | len (s : X)
  | mn (a b : X)
  | mx (a b : X)
  | tt (b : Bool)
  | bvar (i : Nat)
  | cmp (op : BinOp) (a b : X)
  | not (a : X)
  | beq (a b : X)
  | pr1 (f : Nat) (a : X)
  | sl (l : List UInt8)
  | svar (i : Nat)
  | cat (a b : X)
  | st1 (f : Nat) (a : X)
  | seq (a b : X)
  deriving Repr, Inhabited

/-! ### one way at a time: the kernel has small texts to go through -/
section
universe v
variable {γ : Sort v}
def X.onLit (x : X) (d : γ) (f : Int → γ) : γ := match x with | .lit n => f n | _ => d
def X.onVar (x : X) (d : γ) (f : Nat → γ) : γ := match x with | .var n => f n | _ => d
def X.onAr (x : X) (d : γ) (f : BinOp → IntKind → X → X → γ) : γ := match x with | .ar op k a b => f op k a b | _ => d
def X.onCv (x : X) (d : γ) (f : IntKind → X → γ) : γ := match x with | .cv k a => f k a | _ => d
def X.onIte (x : X) (d : γ) (f : X → X → X → γ) : γ := match x with | .ite a b c => f a b c | _ => d
def X.onAp1 (x : X) (d : γ) (f : Nat → X → γ) : γ := match x with | .ap1 k a => f k a | _ => d
def X.onAp2 (x : X) (d : γ) (f : Nat → X → X → γ) : γ := match x with | .ap2 k a b => f k a b | _ => d
def X.onLen (x : X) (d : γ) (f : X → γ) : γ := match x with | .len a => f a | _ => d
def X.onMn (x : X) (d : γ) (f : X → X → γ) : γ := match x with | .mn a b => f a b | _ => d
def X.onMx (x : X) (d : γ) (f : X → X → γ) : γ := match x with | .mx a b => f a b | _ => d
def X.onTt (x : X) (d : γ) (f : Bool → γ) : γ := match x with | .tt b => f b | _ => d
def X.onBvar (x : X) (d : γ) (f : Nat → γ) : γ := match x with | .bvar i => f i | _ => d
def X.onCmp (x : X) (d : γ) (f : BinOp → X → X → γ) : γ := match x with | .cmp op a b => f op a b | _ => d
def X.onNot (x : X) (d : γ) (f : X → γ) : γ := match x with | .not a => f a | _ => d
def X.onBeq (x : X) (d : γ) (f : X → X → γ) : γ := match x with | .beq a b => f a b | _ => d
def X.onPr1 (x : X) (d : γ) (f : Nat → X → γ) : γ := match x with | .pr1 k a => f k a | _ => d
def X.onSl (x : X) (d : γ) (f : List UInt8 → γ) : γ := match x with | .sl l => f l | _ => d
def X.onSvar (x : X) (d : γ) (f : Nat → γ) : γ := match x with | .svar i => f i | _ => d
def X.onCat (x : X) (d : γ) (f : X → X → γ) : γ := match x with | .cat a b => f a b | _ => d
def X.onSt1 (x : X) (d : γ) (f : Nat → X → γ) : γ := match x with | .st1 k a => f k a | _ => d
def X.onSeq (x : X) (d : γ) (f : X → X → γ) : γ := match x with | .seq a b => f a b | _ => d
end

def binNo : BinOp → Nat
  | .add => 0 | .sub => 1 | .mul => 2 | .quo => 3 | .rem => 4 | .and => 5 | .or => 6 | .xor => 7 | .shl => 8 | .shr => 9 | .andNot => 10
  | .eql => 11 | .neq => 12 | .lss => 13 | .leq => 14 | .gtr => 15 | .geq => 16
def binIs (a b : BinOp) : Bool := Nat.beq (binNo a) (binNo b)
theorem binIs_iff (a b : BinOp) : binIs a b = true ↔ a = b := by cases a <;> cases b <;> decide
def kindNo : IntKind → Nat
  | .i8 => 0 | .i16 => 1 | .i32 => 2 | .i64 => 3 | .u8 => 4 | .u16 => 5 | .u32 => 6 | .u64 => 7
def kindIs (a b : IntKind) : Bool := Nat.beq (kindNo a) (kindNo b)
theorem kindIs_iff (a b : IntKind) : kindIs a b = true ↔ a = b := by cases a <;> cases b <;> decide

def intNo (a : Int) : Nat := match a with
  | .ofNat n => Nat.mul 2 n
  | .negSucc n => Nat.succ (Nat.mul 2 n)
def intIs (a b : Int) : Bool := Nat.beq (intNo a) (intNo b)
theorem intIs_iff (a b : Int) : intIs a b = true ↔ a = b := by
  unfold intIs
  rw [Nat.beq_eq]
  cases a with
  | ofNat n => cases b with
    | ofNat m => show 2 * n = 2 * m ↔ _; constructor
                 · intro h; have : n = m := by omega
                   rw [this]
                 · intro h; injection h with h; rw [h]
    | negSucc m => show 2 * n = 2 * m + 1 ↔ _; constructor
                   · intro h; omega
                   · intro h; cases h
  | negSucc n => cases b with
    | ofNat m => show 2 * n + 1 = 2 * m ↔ _; constructor
                 · intro h; omega
                 · intro h; cases h
    | negSucc m => show 2 * n + 1 = 2 * m + 1 ↔ _; constructor
                   · intro h; have : n = m := by omega
                     rw [this]
                   · intro h; injection h with h; rw [h]

/-- `a && b`, the second looked at only if it must be. -/
def both (a b : Bool) : Bool := match a with
  | true => b
  | false => false
theorem both_iff (a b : Bool) : both a b = true ↔ a = true ∧ b = true := by cases a <;> simp [both]

def X.is : X → X → Bool
  | .lit n, y => y.onLit false fun m => intIs n m
  | .var n, y => y.onVar false fun m => Nat.beq n m
  | .ar op k a b, y => y.onAr false fun op' k' a' b' => both (binIs op op') (both (kindIs k k') (both (a.is a') (b.is b')))
  | .cv k a, y => y.onCv false fun k' a' => both (kindIs k k') (a.is a')
  | .ite a b c, y => y.onIte false fun a' b' c' => both (a.is a') (both (b.is b') (c.is c'))
  | .ap1 k a, y => y.onAp1 false fun k' a' => both (Nat.beq k k') (a.is a')
  | .ap2 k a b, y => y.onAp2 false fun k' a' b' => both (Nat.beq k k') (both (a.is a') (b.is b'))
  | .len a, y => y.onLen false fun a' => a.is a'
  | .mn a b, y => y.onMn false fun a' b' => both (a.is a') (b.is b')
  | .mx a b, y => y.onMx false fun a' b' => both (a.is a') (b.is b')
  | .tt b, y => y.onTt false fun b' => match b with
    | true => b'
    | false => match b' with
      | true => false
      | false => true
  | .bvar n, y => y.onBvar false fun m => Nat.beq n m
  | .cmp op a b, y => y.onCmp false fun op' a' b' => both (binIs op op') (both (a.is a') (b.is b'))
  | .not a, y => y.onNot false fun a' => a.is a'
  | .beq a b, y => y.onBeq false fun a' b' => both (a.is a') (b.is b')
  | .pr1 k a, y => y.onPr1 false fun k' a' => both (Nat.beq k k') (a.is a')
  | .sl l, y => y.onSl false fun l' => l == l'
  | .svar n, y => y.onSvar false fun m => Nat.beq n m
  | .cat a b, y => y.onCat false fun a' b' => both (a.is a') (b.is b')
  | .st1 k a, y => y.onSt1 false fun k' a' => both (Nat.beq k k') (a.is a')
  | .seq a b, y => y.onSeq false fun a' b' => both (a.is a') (b.is b')

theorem X.is_iff (a b : X) : a.is b = true ↔ a = b := by
  induction a generalizing b with
  | tt x => cases b <;> simp [X.is, X.onTt]; rename_i y; cases x <;> cases y <;> simp
  | _ => cases b <;> simp [X.is, X.onLit, X.onVar, X.onAr, X.onCv, X.onIte, X.onAp1, X.onAp2, X.onLen, X.onMn, X.onMx, X.onBvar, X.onCmp, X.onNot, X.onBeq, X.onPr1, X.onSl, X.onSvar, X.onCat, X.onSt1, X.onSeq, both_iff, binIs_iff, kindIs_iff, intIs_iff, *]

instance : DecidableEq X := fun a b => decidable_of_iff (a.is b = true) (X.is_iff a b)

structure Vl where
  i : Nat → Int
  b : Nat → Bool
  s : Nat → List UInt8
  v : Nat → Value
  f1 : Nat → Int → Int
  f2 : Nat → Int → Int → Int
  p1 : Nat → Int → Bool
  g1 : Nat → Int → List UInt8

structure D where
  i : Int
  b : Bool
  s : List UInt8

def arD (op : BinOp) (k : IntKind) (x y : Int) : Int :=
  match op with
  | .add => k.wrap (x + y)
  | .sub => k.wrap (x - y)
  | .mul => k.wrap (x * y)
  | .quo => k.wrap (x.tdiv y)
  | .rem => x.tmod y
  | .and => k.wrap ((BitVec.ofInt k.bits x &&& BitVec.ofInt k.bits y).toNat)
  | .or => k.wrap ((BitVec.ofInt k.bits x ||| BitVec.ofInt k.bits y).toNat)
  | .xor => k.wrap ((BitVec.ofInt k.bits x ^^^ BitVec.ofInt k.bits y).toNat)
  | .andNot => k.wrap ((BitVec.ofInt k.bits x &&& ~~~ BitVec.ofInt k.bits y).toNat)
  | .shl => k.wrap (x * 2 ^ (min y.toNat k.bits))
  | .shr => x.fdiv (2 ^ (min y.toNat k.bits))
  | _ => 0

def cmpD (op : BinOp) (x y : Int) : Bool :=
  match op with
  | .eql => x == y
  | .neq => x != y
  | .lss => x < y
  | .leq => x ≤ y
  | .gtr => x > y
  | .geq => x ≥ y
  | _ => false

def X.d (σ : Vl) : X → D
  | .lit n => ⟨n, false, []⟩
  | .var i => ⟨σ.i i, false, []⟩
  | .ar op k a b => ⟨arD op k (a.d σ).i (b.d σ).i, false, []⟩
  | .cv k a => ⟨k.wrap (a.d σ).i, false, []⟩
  | .ite c a b => if (c.d σ).b then a.d σ else b.d σ
  | .ap1 f a => ⟨σ.f1 f (a.d σ).i, false, []⟩
  | .ap2 f a b => ⟨σ.f2 f (a.d σ).i (b.d σ).i, false, []⟩
  | .len s => ⟨(s.d σ).s.length, false, []⟩
  | .mn a b => ⟨if (b.d σ).i < (a.d σ).i then (b.d σ).i else (a.d σ).i, false, []⟩
  | .mx a b => ⟨if (b.d σ).i > (a.d σ).i then (b.d σ).i else (a.d σ).i, false, []⟩
  | .tt b => ⟨0, b, []⟩
  | .bvar i => ⟨0, σ.b i, []⟩
  | .cmp op a b => ⟨0, cmpD op (a.d σ).i (b.d σ).i, []⟩
  | .not a => ⟨0, !(a.d σ).b, []⟩
  | .beq a b => ⟨0, (a.d σ).b == (b.d σ).b, []⟩
  | .pr1 f a => ⟨0, σ.p1 f (a.d σ).i, []⟩
  | .sl l => ⟨0, false, l⟩
  | .svar i => ⟨0, false, σ.s i⟩
  | .cat a b => ⟨0, false, (a.d σ).s ++ (b.d σ).s⟩
  | .st1 f a => ⟨0, false, σ.g1 f (a.d σ).i⟩
  | .seq a b => ⟨0, (a.d σ).s == (b.d σ).s, []⟩

abbrev X.I (σ : Vl) (x : X) : Int := (x.d σ).i
abbrev X.B (σ : Vl) (x : X) : Bool := (x.d σ).b
abbrev X.S (σ : Vl) (x : X) : List UInt8 := (x.d σ).s

/-! ### folding -/

def mkAr (op : BinOp) (k : IntKind) (a b : X) : X := a.onLit (.ar op k a b) fun x => b.onLit (.ar op k a b) fun y => .lit (arD op k x y)

def mkCv (k : IntKind) (a : X) : X :=
  match a with
  | .lit x => .lit (k.wrap x)
  | a => .cv k a

def mkCmpX (op : BinOp) (a b : X) : X :=
  match a.is b with
  | true => .tt (cmpD op 0 0)
  | false => match op with
    | .neq => .not (.cmp .eql a b)
    | .geq => .not (.cmp .lss a b)
    | .gtr => .cmp .lss b a
    | .leq => .not (.cmp .lss b a)
    | op => .cmp op a b
def mkCmp (op : BinOp) (a b : X) : X := a.onLit (mkCmpX op a b) fun x => b.onLit (mkCmpX op a b) fun y => .tt (cmpD op x y)

def mkNot (a : X) : X :=
  match a with
  | .tt b => .tt !b
  | .not b => match b with
    | .cmp .. | .bvar _ | .beq .. | .pr1 .. | .seq .. | .ite .. | .not _ => .not a
    | _ => .not a
  | a => .not a

def mkIte (c a b : X) : X :=
  match c with
  | .tt t => if t then a else b
  | c => if a = b then a else .ite c a b

def mkBeq (a b : X) : X :=
  match a, b with
  | .tt x, .tt y => .tt (x == y)
  | a, b => .beq a b

def mkSeq (a b : X) : X :=
  match a, b with
  | .sl x, .sl y => .tt (x == y)
  | a, b => .seq a b

def mkCat (a b : X) : X :=
  match a, b with
  | .sl x, .sl y => .sl (x ++ y)
  | a, b => .cat a b

def mkLen (a : X) : X :=
  match a with
  | .sl x => .lit x.length
  | a => .len a

def mkMn (a b : X) : X :=
  match a, b with
  | .lit x, .lit y => .lit (if y < x then y else x)
  | a, b => .mn a b

def mkMx (a b : X) : X :=
  match a, b with
  | .lit x, .lit y => .lit (if y > x then y else x)
  | a, b => .mx a b

/-- What the path's conditions say of a test. -/
def known (pc : List X) (c : X) : Option Bool :=
  match c with
  | .tt b => some b
  | c => if pc.contains c || pc.contains (.not (.not c)) then some true else if pc.contains (.not c) then some false else
    match c with
    | .not a => if pc.contains a then some false else none
    | _ => none

/-- A test, as far as it is known. -/
def X.red (pc : List X) (x : X) : X :=
  match known pc x with
  | some b => .tt b
  | none => match x with
    | .ite c a b => match known pc c with
      | some true => a.red pc
      | some false => b.red pc
      | none => x
    | x => x

/-- A number, as far as it is known. -/
def X.redI (pc : List X) : X → X
  | .ite c a b => match known pc c with
    | some true => a.redI pc
    | some false => b.redI pc
    | none => .ite c a b
  | x => x

/-! ## symbolic values -/

inductive CX
  | exact (n : Nat)
  | unk (j : Nat)
  deriving DecidableEq, Repr, Inhabited

inductive SV
  | bad
  | bool (b : X)
  | int (k : IntKind) (x : X)
  | str (s : X)
  | ptr (a : Option (Nat × Nat))
  | sl (a : Option (Nat × Nat)) (len : Nat) (cap : CX)
  | map (r : Option Nat)
  | func (fn : Fn) (first captured : List SV)
  | nilFunc
  | iface (t : TypeId) (v : SV)
  | nilIface
  | agg (cs : List SV)
  | tup (vs : List SV)
  | opq (i : Nat)
  deriving Inhabited, Repr

def SV.red (pc : List X) : SV → SV
  | .bool x => .bool (x.red pc)
  | .int k x => .int k (x.redI pc)
  | v => v

def SV.cells : SV → List SV
  | .agg cs => cs
  | v => [v]

/-- One cell for certain. -/
def SV.one : SV → Bool
  | .bad | .agg _ | .tup _ | .opq _ => false
  | _ => true

/-- Its `cells` can be told. -/
def SV.told : SV → Bool
  | .bad | .opq _ => false
  | _ => true

inductive SO
  | cells (cs : List SV) (elem : TypeId) (slack : Option (Nat × Nat)) (fz : Nat × Nat)   -- slack: (index of the cap, cells of an element)
  | map (es : List (SV × SV × Nat)) (clock : Nat)
  | strIter (s : List UInt8) (pos : Nat)
  deriving Inhabited, Repr

inductive T (α : Type)
  | nil
  | node (l : T α) (v : Option α) (r : T α)
  deriving Inhabited, Repr

def T.get {α : Type} : T α → Nat → Option α
  | .nil, _ => none
  | .node l v r, n => if n = 0 then v else if n % 2 = 1 then l.get (n / 2) else r.get (n / 2 - 1)

def T.setF {α : Type} : Nat → T α → Nat → Option α → T α
  | 0, t, _, _ => t
  | f + 1, .nil, n, x => if n = 0 then .node .nil x .nil else if n % 2 = 1 then .node (T.setF f .nil (n / 2) x) none .nil else .node .nil none (T.setF f .nil (n / 2 - 1) x)
  | f + 1, .node l v r, n, x => if n = 0 then .node l x r else if n % 2 = 1 then .node (T.setF f l (n / 2) x) v r else .node l v (T.setF f r (n / 2 - 1) x)

def T.set {α : Type} (t : T α) (n : Nat) (x : Option α) : T α := T.setF (n + 1) t n x

universe u
/-- Three ways: here, left, right. -/
noncomputable def way {β : Sort u} (n : Nat) (h l r : β) : β := Bool.rec (Bool.rec r l (Nat.beq (Nat.mod n 2) 1)) h (Nat.beq n 0)

theorem way_eq {β : Sort u} (n : Nat) (h l r : β) : way n h l r = if n = 0 then h else if n % 2 = 1 then l else r := by
  unfold way
  by_cases h0 : n = 0
  · subst h0; rfl
  · have h1 : Nat.beq n 0 = false := by cases n with
      | zero => exact absurd rfl h0
      | succ m => rfl
    rw [h1, if_neg h0]
    by_cases h2 : n % 2 = 1
    · rw [if_pos h2]
      have : Nat.beq (Nat.mod n 2) 1 = true := by show Nat.beq (n % 2) 1 = true; rw [h2]; rfl
      rw [this]
    · have h3 : Nat.beq (Nat.mod n 2) 1 = false := by
        show Nat.beq (n % 2) 1 = false
        have : n % 2 = 0 := by omega
        rw [this]; rfl
      rw [h3, if_neg h2]

theorem T.get_node {α : Type} (l : T α) (v : Option α) (r : T α) (n : Nat) : (T.node l v r).get n = if n = 0 then v else if n % 2 = 1 then l.get (n / 2) else r.get (n / 2 - 1) := by
  conv => lhs; unfold T.get

noncomputable def T.getR {α : Type} (t : T α) : Nat → Option α :=
  T.rec (motive := fun _ => Nat → Option α) (fun _ => none) (fun _ v _ gl gr n => way n v (gl (Nat.div n 2)) (gr (Nat.sub (Nat.div n 2) 1))) t

theorem T.getR_eq {α : Type} (t : T α) (n : Nat) : t.getR n = t.get n := by
  induction t generalizing n with
  | nil => rfl
  | node l v r ihl ihr =>
    have e : (T.node l v r).getR n = way n v (l.getR (n / 2)) (r.getR (n / 2 - 1)) := rfl
    rw [e, ihl, ihr, T.get_node, way_eq]

theorem T.getR_get : @T.getR = @T.get := by funext α t n; exact T.getR_eq t n

/-- Put at a place: the semantic form. -/
def T.put {α : Type} (t : T α) (n : Nat) (x : α) : T α :=
  match t with
  | .nil => T.setF (n + 1) .nil n (some x)
  | .node l v r => if n = 0 then .node l (some x) r else if n % 2 = 1 then .node (l.put (n / 2) x) v r else .node l v (r.put (n / 2 - 1) x)

noncomputable def T.mkK {α : Type} {β : Type u} (x : α) (f : Nat) : Nat → (T α → β) → β :=
  Nat.rec (motive := fun _ => Nat → (T α → β) → β) (fun _ k => k .nil)
    (fun _ ih n k => way n (k (.node .nil (some x) .nil)) (ih (Nat.div n 2) fun l => k (.node l none .nil)) (ih (Nat.sub (Nat.div n 2) 1) fun r => k (.node .nil none r))) f

theorem T.mkK_eq {α : Type} {β : Type u} (x : α) (f : Nat) : ∀ (n : Nat) (k : T α → β), T.mkK x f n k = k (T.setF f .nil n (some x)) := by
  induction f with
  | zero => intro n k; rfl
  | succ f ih =>
    intro n k
    have e : T.mkK x (f + 1) n k = way n (k (.node .nil (some x) .nil)) (T.mkK x f (n / 2) fun l => k (.node l none .nil)) (T.mkK x f (n / 2 - 1) fun r => k (.node .nil none r)) := rfl
    rw [e, ih, ih, way_eq]
    conv => rhs; unfold T.setF
    split
    · rfl
    · split <;> rfl

noncomputable def T.putK {α : Type} {β : Type u} (x : α) (t : T α) : Nat → (T α → β) → β :=
  T.rec (motive := fun _ => Nat → (T α → β) → β) (fun n k => T.mkK x (Nat.succ n) n k)
    (fun l v r pl pr n k => way n (k (.node l (some x) r)) (pl (Nat.div n 2) fun l => k (.node l v r)) (pr (Nat.sub (Nat.div n 2) 1) fun r => k (.node l v r))) t

theorem T.putK_eq {α : Type} {β : Type u} (x : α) (t : T α) : ∀ (n : Nat) (k : T α → β), T.putK x t n k = k (t.put n x) := by
  induction t with
  | nil => intro n k; exact T.mkK_eq x (n + 1) n k
  | node l v r ihl ihr =>
    intro n k
    have e : T.putK x (.node l v r) n k = way n (k (.node l (some x) r)) (T.putK x l (n / 2) fun l => k (.node l v r)) (T.putK x r (n / 2 - 1) fun r => k (.node l v r)) := rfl
    rw [e, ihl, ihr, way_eq]
    conv => rhs; unfold T.put
    split
    · rfl
    · split <;> rfl

def T.putC {α : Type} {β : Type u} (x : α) (t : T α) (n : Nat) (k : T α → β) : β := k (t.put n x)
theorem T.putK_putC : @T.putK = @T.putC := by funext α β x t n k; exact T.putK_eq x t n k

/-! ## slots -/

structure N8 (α : Type) where
  a : α
  b : α
  c : α
  d : α
  e : α
  f : α
  g : α
  h : α
  deriving Inhabited, Repr

section
variable {α : Type}
universe v
/-- One of eight. -/
def by8 {β : Sort v} (d : Nat) (a b c d' e f g h : β) : β := match Nat.ble 4 d with
  | false => match Nat.ble 2 d with
    | false => match Nat.beq d 0 with
      | true => a
      | false => b
    | true => match Nat.beq d 2 with
      | true => c
      | false => d'
  | true => match Nat.ble 6 d with
    | false => match Nat.beq d 4 with
      | true => e
      | false => f
    | true => match Nat.beq d 6 with
      | true => g
      | false => h
def N8.sel (x : N8 α) (d : Nat) : α := by8 d x.a x.b x.c x.d x.e x.f x.g x.h
theorem by8_all {β : Sort v} (d : Nat) (v : β) : by8 d v v v v v v v v = v := by
  unfold by8
  cases Nat.ble 4 d <;> cases Nat.ble 2 d <;> cases Nat.beq d 0 <;> cases Nat.beq d 2 <;> cases Nat.ble 6 d <;> cases Nat.beq d 4 <;> cases Nat.beq d 6 <;> rfl
theorem by8_ap {β γ : Type v} (f : β → γ) (i : Nat) (a b c d e g h j : β) : f (by8 i a b c d e g h j) = by8 i (f a) (f b) (f c) (f d) (f e) (f g) (f h) (f j) := by
  unfold by8
  cases Nat.ble 4 i <;> cases Nat.ble 2 i <;> cases Nat.beq i 0 <;> cases Nat.beq i 2 <;> cases Nat.ble 6 i <;> cases Nat.beq i 4 <;> cases Nat.beq i 6 <;> rfl
theorem by8_ap2 {β γ δ : Type v} (f : β → γ → δ) (i : Nat) (a b c d e g h j : β) (a' b' c' d' e' g' h' j' : γ) : f (by8 i a b c d e g h j) (by8 i a' b' c' d' e' g' h' j') = by8 i (f a a') (f b b') (f c c') (f d d') (f e e') (f g g') (f h h') (f j j') := by
  unfold by8
  cases Nat.ble 4 i <;> cases Nat.ble 2 i <;> cases Nat.beq i 0 <;> cases Nat.beq i 2 <;> cases Nat.ble 6 i <;> cases Nat.beq i 4 <;> cases Nat.beq i 6 <;> rfl
def N8.upd (x : N8 α) (d : Nat) (v : α) : N8 α := by8 d { x with a := v } { x with b := v } { x with c := v } { x with d := v } { x with e := v } { x with f := v } { x with g := v } { x with h := v }
theorem N8.sel_upd (x : N8 α) (i j : Nat) (v : α) (hi : i < 8) (hj : j < 8) : (x.upd i v).sel j = if j = i then v else x.sel j := by
  have h1 : i = 0 ∨ i = 1 ∨ i = 2 ∨ i = 3 ∨ i = 4 ∨ i = 5 ∨ i = 6 ∨ i = 7 := by omega
  have h2 : j = 0 ∨ j = 1 ∨ j = 2 ∨ j = 3 ∨ j = 4 ∨ j = 5 ∨ j = 6 ∨ j = 7 := by omega
  rcases h1 with rfl | rfl | rfl | rfl | rfl | rfl | rfl | rfl <;> rcases h2 with rfl | rfl | rfl | rfl | rfl | rfl | rfl | rfl <;> rfl
def N8.all (v : α) : N8 α := ⟨v, v, v, v, v, v, v, v⟩
theorem N8.sel_all (v : α) (i : Nat) : (N8.all v).sel i = v := by8_all i v
def N8.zip (f : α → α → α) (x y : N8 α) : N8 α := ⟨f x.a y.a, f x.b y.b, f x.c y.c, f x.d y.d, f x.e y.e, f x.f y.f, f x.g y.g, f x.h y.h⟩
theorem N8.sel_zip (f : α → α → α) (x y : N8 α) (i : Nat) : (N8.zip f x y).sel i = f (x.sel i) (y.sel i) := (by8_ap2 f i _ _ _ _ _ _ _ _ _ _ _ _ _ _ _ _).symm

variable {γ : Type v}
/-- Change one of them, the others as they are. -/
def N8.un (x : N8 α) (k : α → α → α → α → α → α → α → α → γ) : γ := match x with | ⟨a, b, c, d, e, f, g, h⟩ => k a b c d e f g h
theorem N8.un_eq (x : N8 α) (k : α → α → α → α → α → α → α → α → γ) : x.un k = k x.a x.b x.c x.d x.e x.f x.g x.h := rfl
def N8.up0 (v : α) (k : N8 α → γ) (_ b c d e f g h : α) : γ := k ⟨v, b, c, d, e, f, g, h⟩
def N8.up1 (v : α) (k : N8 α → γ) (a _ c d e f g h : α) : γ := k ⟨a, v, c, d, e, f, g, h⟩
def N8.up2 (v : α) (k : N8 α → γ) (a b _ d e f g h : α) : γ := k ⟨a, b, v, d, e, f, g, h⟩
def N8.up3 (v : α) (k : N8 α → γ) (a b c _ e f g h : α) : γ := k ⟨a, b, c, v, e, f, g, h⟩
def N8.up4 (v : α) (k : N8 α → γ) (a b c d _ f g h : α) : γ := k ⟨a, b, c, d, v, f, g, h⟩
def N8.up5 (v : α) (k : N8 α → γ) (a b c d e _ g h : α) : γ := k ⟨a, b, c, d, e, v, g, h⟩
def N8.up6 (v : α) (k : N8 α → γ) (a b c d e f _ h : α) : γ := k ⟨a, b, c, d, e, f, v, h⟩
def N8.up7 (v : α) (k : N8 α → γ) (a b c d e f g _ : α) : γ := k ⟨a, b, c, d, e, f, g, v⟩
def N8.updK (x : N8 α) (d : Nat) (v : α) (k : N8 α → γ) : γ := x.un (by8 d N8.up0 N8.up1 N8.up2 N8.up3 N8.up4 N8.up5 N8.up6 N8.up7 v k)
theorem N8.updK_eq (x : N8 α) (d : Nat) (v : α) (k : N8 α → γ) : x.updK d v k = k (x.upd d v) := by
  unfold N8.updK N8.upd by8
  cases Nat.ble 4 d <;> cases Nat.ble 2 d <;> cases Nat.beq d 0 <;> cases Nat.beq d 2 <;> cases Nat.ble 6 d <;> cases Nat.beq d 4 <;> cases Nat.beq d 6 <;> rfl
end

abbrev Tm := N8 (N8 (N8 SV))
def Tm.nil : Tm := N8.all (N8.all (N8.all .bad))
def Tm.get (t : Tm) (i : Nat) : SV := match Nat.ble 512 i with
  | true => .bad
  | false => ((t.sel (i / 64)).sel (i / 8 % 8)).sel (i % 8)
def Tm.put (t : Tm) (i : Nat) (v : SV) : Tm := match Nat.ble 512 i with
  | true => t
  | false => t.upd (i / 64) ((t.sel (i / 64)).upd (i / 8 % 8) (((t.sel (i / 64)).sel (i / 8 % 8)).upd (i % 8) v))
theorem Tm.get_nil (i : Nat) : Tm.nil.get i = .bad := by
  unfold Tm.get Tm.nil; split
  · rfl
  · simp only [N8.sel_all]
theorem Tm.get_put (t : Tm) (i j : Nat) (v : SV) : (t.put i v).get j = if j = i then (if i < 512 then v else .bad) else t.get j := by
  unfold Tm.put Tm.get
  cases hi : Nat.ble 512 i with
  | true =>
    have hi' : 512 ≤ i := Nat.le_of_ble_eq_true hi
    cases hj : Nat.ble 512 j with
    | true =>
      by_cases e : j = i
      · subst e; simp only [if_true, if_neg (Nat.not_lt.2 hi')]
      · simp only [if_neg e]
    | false =>
      have e : j ≠ i := by intro e; subst e; rw [hi] at hj; cases hj
      simp only [if_neg e]
  | false =>
    have hi' : i < 512 := by
      by_cases h : 512 ≤ i
      · have := Nat.ble_eq_true_of_le h; rw [hi] at this; cases this
      · omega
    cases hj : Nat.ble 512 j with
    | true =>
      have e : j ≠ i := by intro e; subst e; rw [hi] at hj; cases hj
      simp only [if_neg e]
    | false =>
      have hj' : j < 512 := by
        by_cases h : 512 ≤ j
        · have := Nat.ble_eq_true_of_le h; rw [hj] at this; cases this
        · omega
      simp only [if_pos hi']
      rw [N8.sel_upd _ _ _ _ (by omega) (by omega)]
      by_cases e1 : j / 64 = i / 64
      · rw [if_pos e1, N8.sel_upd _ _ _ _ (by omega) (by omega)]
        by_cases e2 : j / 8 % 8 = i / 8 % 8
        · rw [if_pos e2, N8.sel_upd _ _ _ _ (by omega) (by omega)]
          by_cases e3 : j % 8 = i % 8
          · have : j = i := by omega
            rw [if_pos e3, if_pos this]
          · have : j ≠ i := by intro e; subst e; exact e3 rfl
            rw [if_neg e3, if_neg this, e1, e2]
        · have : j ≠ i := by intro e; subst e; exact e2 rfl
          rw [if_neg e2, if_neg this, e1]
      · have : j ≠ i := by intro e; subst e; exact e1 rfl
        rw [if_neg e1, if_neg this]

universe w
def Tm.putK {γ : Type w} (v : SV) (t : Tm) (i : Nat) (k : Tm → γ) : γ := match Nat.ble 512 i with
  | true => k t
  | false => ((t.sel (i / 64)).sel (i / 8 % 8)).updK (i % 8) v fun x => (t.sel (i / 64)).updK (i / 8 % 8) x fun y => t.updK (i / 64) y k
theorem Tm.putK_eq {γ : Type w} (v : SV) (t : Tm) (i : Nat) (k : Tm → γ) : Tm.putK v t i k = k (t.put i v) := by
  unfold Tm.putK Tm.put
  cases Nat.ble 512 i with
  | true => rfl
  | false => simp only [N8.updK_eq]

structure Hp where
  t : T SO
  nx : Nat
  nk : Nat
  deriving Inhabited, Repr

structure St where
  tm : Tm
  nt : Nat
  hp : Hp
  pc : List X
  deriving Inhabited, Repr

section
universe v
variable {γ : Sort v}
/-- A state, its parts at hand. -/
def St.un (s : St) (f : Tm → Nat → Hp → List X → γ) : γ := match s with | ⟨a, b, c, d⟩ => f a b c d
theorem St.un_eq (s : St) (f : Tm → Nat → Hp → List X → γ) : s.un f = f s.tm s.nt s.hp s.pc := rfl
def Hp.un (h : Hp) (f : T SO → Nat → Nat → γ) : γ := match h with | ⟨a, b, c⟩ => f a b c
theorem Hp.un_eq (h : Hp) (f : T SO → Nat → Nat → γ) : h.un f = f h.t h.nx h.nk := rfl
end
def Hp.new (h : Hp) (o : SO) : Hp := { h with t := h.t.set h.nx (some o), nx := h.nx + 1 }
def Hp.put (h : Hp) (i : Nat) (o : SO) : Hp := { h with t := h.t.set i (some o) }
def Hp.drop (h : Hp) (i : Nat) : Hp := { h with t := h.t.set i none }

/-! ## call by value: the same, with what is handed on worked out -/

variable {α : Type u}

def fcN (n : Nat) (k : Nat → α) : α :=
  match n with
  | 0 => k 0
  | m + 1 => k (Nat.succ m)
theorem fcN_eq (n : Nat) (k : Nat → α) : fcN n k = k n := by cases n <;> rfl

def fcI (n : Int) (k : Int → α) : α :=
  match n with
  | .ofNat m => fcN m fun m => k (.ofNat m)
  | .negSucc m => fcN m fun m => k (.negSucc m)
theorem fcI_eq (n : Int) (k : Int → α) : fcI n k = k n := by cases n <;> simp [fcI, fcN_eq]

def fcX (x : X) (k : X → α) : α :=
  match x with
  | .lit n => fcI n fun n => k (.lit n)
  | .var i => k (.var i)
  | .ar op q a b => fcX a fun a => fcX b fun b => k (.ar op q a b)
  | .cv q a => fcX a fun a => k (.cv q a)
  | .ite c a b => fcX c fun c => fcX a fun a => fcX b fun b => k (.ite c a b)
  | .ap1 f a => fcX a fun a => k (.ap1 f a)
  | .ap2 f a b => fcX a fun a => fcX b fun b => k (.ap2 f a b)
  | .len s => fcX s fun s => k (.len s)
  | .mn a b => fcX a fun a => fcX b fun b => k (.mn a b)
  | .mx a b => fcX a fun a => fcX b fun b => k (.mx a b)
  | .tt b => match b with
    | true => k (.tt true)
    | false => k (.tt false)
  | .bvar i => k (.bvar i)
  | .cmp op a b => fcX a fun a => fcX b fun b => k (.cmp op a b)
  | .not a => fcX a fun a => k (.not a)
  | .beq a b => fcX a fun a => fcX b fun b => k (.beq a b)
  | .pr1 f a => fcX a fun a => k (.pr1 f a)
  | .sl l => k (.sl l)
  | .svar i => k (.svar i)
  | .cat a b => fcX a fun a => fcX b fun b => k (.cat a b)
  | .st1 f a => fcX a fun a => k (.st1 f a)
  | .seq a b => fcX a fun a => fcX b fun b => k (.seq a b)
theorem fcX_eq (x : X) (k : X → α) : fcX x k = k x := by
  induction x generalizing k <;> unfold fcX <;> first
    | rfl
    | (simp_all [fcI_eq]; done)
    | (split <;> rfl)

def fcP (p : Option (Nat × Nat)) (k : Option (Nat × Nat) → α) : α :=
  match p with
  | none => k none
  | some (a, b) => fcN a fun a => fcN b fun b => k (some (a, b))
theorem fcP_eq (p : Option (Nat × Nat)) (k : Option (Nat × Nat) → α) : fcP p k = k p := by
  cases p <;> simp [fcP, fcN_eq]

def fcC (c : CX) (k : CX → α) : α :=
  match c with
  | .exact n => fcN n fun n => k (.exact n)
  | .unk j => fcN j fun j => k (.unk j)
theorem fcC_eq (c : CX) (k : CX → α) : fcC c k = k c := by cases c <;> simp [fcC, fcN_eq]

mutual
def fcV (v : SV) (k : SV → α) : α :=
  match v with
  | .bad => k .bad
  | .bool x => fcX x fun x => k (.bool x)
  | .int q x => fcX x fun x => k (.int q x)
  | .str x => fcX x fun x => k (.str x)
  | .ptr a => fcP a fun a => k (.ptr a)
  | .sl a n c => fcP a fun a => fcN n fun n => fcC c fun c => k (.sl a n c)
  | .map none => k (.map none)
  | .map (some r) => fcN r fun r => k (.map (some r))
  | .func f a b => fcL a fun a => fcL b fun b => k (.func f a b)
  | .nilFunc => k .nilFunc
  | .iface t x => fcV x fun x => k (.iface t x)
  | .nilIface => k .nilIface
  | .agg xs => fcL xs fun xs => k (.agg xs)
  | .tup xs => fcL xs fun xs => k (.tup xs)
  | .opq i => k (.opq i)
def fcL (l : List SV) (k : List SV → α) : α :=
  match l with
  | [] => k []
  | x :: xs => fcV x fun x => fcL xs fun xs => k (x :: xs)
end

mutual
theorem fcV_eq : ∀ (v : SV) (k : SV → α), fcV v k = k v
  | .bad, k => by unfold fcV; rfl
  | .bool x, k => by unfold fcV; rw [fcX_eq]
  | .int q x, k => by unfold fcV; rw [fcX_eq]
  | .str x, k => by unfold fcV; rw [fcX_eq]
  | .ptr a, k => by unfold fcV; rw [fcP_eq]
  | .sl a n c, k => by unfold fcV; rw [fcP_eq, fcN_eq, fcC_eq]
  | .map none, k => by unfold fcV; rfl
  | .map (some r), k => by unfold fcV; rw [fcN_eq]
  | .func f a b, k => by unfold fcV; rw [fcL_eq a, fcL_eq b]
  | .nilFunc, k => by unfold fcV; rfl
  | .iface t x, k => by unfold fcV; rw [fcV_eq x]
  | .nilIface, k => by unfold fcV; rfl
  | .agg xs, k => by unfold fcV; rw [fcL_eq xs]
  | .tup xs, k => by unfold fcV; rw [fcL_eq xs]
  | .opq i, k => by unfold fcV; rfl
theorem fcL_eq : ∀ (l : List SV) (k : List SV → α), fcL l k = k l
  | [], k => by unfold fcL; rfl
  | x :: xs, k => by unfold fcL; rw [fcV_eq x, fcL_eq xs]
end

def setK (n : Nat) (v : SV) (l : List SV) (k : List SV → α) : α :=
  match l with
  | [] => k []
  | x :: xs => match n with
    | 0 => k (v :: xs)
    | n + 1 => setK n v xs fun xs => k (x :: xs)
theorem setK_eq (n : Nat) (v : SV) (l : List SV) (k : List SV → α) : setK n v l k = k (l.set n v) := by
  induction l generalizing n k with
  | nil => simp [setK]
  | cons x xs ih => cases n <;> simp [setK, ih]

/-- At most so many. -/
def atMost : Nat → List SV → Bool
  | _, [] => true
  | 0, _ :: _ => false
  | n + 1, _ :: xs => atMost n xs
def fcO (o : SO) (k : SO → α) : α :=
  match o with
  | .cells cs e s f => match atMost 96 cs with
    | false => k (.cells cs e s f)
    | true => fcL cs fun cs => match s with
      | none => k (.cells cs e none f)
      | some (a, b) => fcN a fun a => fcN b fun b => k (.cells cs e (some (a, b)) f)
  | .map es c => k (.map es c)
  | .strIter s p => k (.strIter s p)
theorem fcO_eq (o : SO) (k : SO → α) : fcO o k = k o := by
  cases o with
  | cells cs e s f => simp only [fcO, fcL_eq]; rcases s with _ | ⟨a, b⟩ <;> cases atMost 96 cs <;> simp [fcN_eq]
  | map => rfl
  | strIter => rfl

def fcT (t : T SO) (k : T SO → α) : α :=
  match t with
  | .nil => k .nil
  | .node l v r => fcT l fun l => fcT r fun r => match v with
    | none => k (.node l none r)
    | some o => fcO o fun o => k (.node l (some o) r)
theorem fcT_eq (t : T SO) (k : T SO → α) : fcT t k = k t := by
  induction t generalizing k with
  | nil => rfl
  | node l v r ihl ihr => unfold fcT; rw [ihl, ihr]; cases v <;> simp [fcO_eq]

def fcH (h : Hp) (k : Hp → α) : α := fcT h.t fun t => fcN h.nx fun nx => fcN h.nk fun nk => k ⟨t, nx, nk⟩
theorem fcH_eq (h : Hp) (k : Hp → α) : fcH h k = k h := by unfold fcH; rw [fcT_eq, fcN_eq, fcN_eq]

def fcXs (l : List X) (k : List X → α) : α :=
  match l with
  | [] => k []
  | x :: xs => fcX x fun x => fcXs xs fun xs => k (x :: xs)
theorem fcXs_eq (l : List X) (k : List X → α) : fcXs l k = k l := by
  induction l generalizing k with
  | nil => rfl
  | cons x xs ih => unfold fcXs; rw [fcX_eq, ih]

def appK (cs : List X) (pc : List X) (k : List X → α) : α :=
  match cs with
  | [] => k pc
  | c :: cs => appK cs pc fun r => fcX c fun c => k (c :: r)
theorem appK_eq (cs pc : List X) (k : List X → α) : appK cs pc k = k (cs ++ pc) := by
  induction cs generalizing k with
  | nil => rfl
  | cons c cs ih => unfold appK; rw [ih, fcX_eq]; rfl

/-! ## values of the program's text -/

def ofS : Value → SV
  | .bool b => .bool (.tt b)
  | .int k n => .int k (.lit n)
  | .string s => .str (.sl s.data.toList)
  | .pointer none => .ptr none
  | .slice none n c => .sl none n (.exact c)
  | .map none => .map none
  | .nilFunc => .nilFunc
  | .nilIface => .nilIface
  | .func fn a b => match a.toList, b.toList with
    | [], [] => .func fn [] []
    | _, _ => .bad
  | _ => .bad

def ofV : Value → SV
  | .agg cs => .agg (cs.toList.map ofS)
  | .tuple vs => .tup (vs.toList.map ofS)
  | v => ofS v

end Go.Sy
