/- A symbolic evaluator for the model's programs: a state read as an instance of a pattern. -/
import Derived.Test.YtfbhiknjhcbfoaaDoorSy19
namespace Go.Sy

/-! ## terms put for variables -/

structure Sb where
  i : Nat → X
  b : Nat → X
  s : Nat → X
  v : Nat → Nat
  π : List Nat
  κ : List CX

def Vl.sub (σ : Vl) (θ : Sb) : Vl := { σ with i := fun j => (θ.i j).I σ, b := fun j => (θ.b j).B σ, s := fun j => (θ.s j).S σ, v := fun j => σ.v (θ.v j) }

/-- The same, by form, or by the table. -/
def cEq (tb : List (X × X)) : X → X → Bool
  | x, y => x == y || tb.contains (x, y) || match x, y with
    | .ar op k a b, .ar op' k' a' b' => op == op' && k == k' && cEq tb a a' && cEq tb b b'
    | .cv k a, .cv k' a' => k == k' && cEq tb a a'
    | .ite c a b, .ite c' a' b' => cEq tb c c' && cEq tb a a' && cEq tb b b'
    | .ap1 f a, .ap1 f' a' => f == f' && cEq tb a a'
    | .ap2 f a b, .ap2 f' a' b' => f == f' && cEq tb a a' && cEq tb b b'
    | .mn a b, .mn a' b' => cEq tb a a' && cEq tb b b'
    | .mx a b, .mx a' b' => cEq tb a a' && cEq tb b b'
    | .cmp op a b, .cmp op' a' b' => op == op' && cEq tb a a' && cEq tb b b'
    | .not a, .not a' => cEq tb a a'
    | .beq a b, .beq a' b' => cEq tb a a' && cEq tb b b'
    | _, _ => false

theorem cEq_d {σ : Vl} {tb : List (X × X)} (ht : ∀ p ∈ tb, p.1.d σ = p.2.d σ) : ∀ (x y : X), cEq tb x y = true → x.d σ = y.d σ := by
  intro x
  induction x <;> intro y h <;> unfold cEq at h <;> simp only [Bool.or_eq_true, beq_iff_eq] at h <;> rcases h with (h | h) | h <;>
    first
    | (rw [h]; done)
    | (exact ht _ (by simpa using h))
    | skip
  all_goals cases y <;> simp only [Bool.false_eq_true, Bool.and_eq_true, beq_iff_eq] at h
  case ar.inr.ar iha ihb _ _ _ _ => obtain ⟨⟨⟨rfl, rfl⟩, h1⟩, h2⟩ := h; simp [X.d, iha _ h1, ihb _ h2]
  case cv.inr.cv iha _ _ => obtain ⟨rfl, h1⟩ := h; simp [X.d, iha _ h1]
  case ite.inr.ite ihc iha ihb _ _ _ => obtain ⟨⟨h1, h2⟩, h3⟩ := h; simp [X.d, ihc _ h1, iha _ h2, ihb _ h3]
  case ap1.inr.ap1 iha _ _ => obtain ⟨rfl, h1⟩ := h; simp [X.d, iha _ h1]
  case ap2.inr.ap2 iha ihb _ _ _ => obtain ⟨⟨rfl, h1⟩, h2⟩ := h; simp [X.d, iha _ h1, ihb _ h2]
  case mn.inr.mn iha ihb _ _ => obtain ⟨h1, h2⟩ := h; simp [X.d, iha _ h1, ihb _ h2]
  case mx.inr.mx iha ihb _ _ => obtain ⟨h1, h2⟩ := h; simp [X.d, iha _ h1, ihb _ h2]
  case cmp.inr.cmp iha ihb _ _ _ => obtain ⟨⟨rfl, h1⟩, h2⟩ := h; simp [X.d, iha _ h1, ihb _ h2]
  case not.inr.not iha _ => simp [X.d, iha _ h]
  case beq.inr.beq iha ihb _ _ => obtain ⟨h1, h2⟩ := h; simp [X.d, iha _ h1, ihb _ h2]

/-- The pattern's term, and the state's. -/
def fitI (tb : List (X × X)) (θ : Sb) : X → X → Bool
  | .var j, y => cEq tb (θ.i j) y
  | .lit n, .lit n' => n == n'
  | .ar op k a b, .ar op' k' a' b' => op == op' && k == k' && fitI tb θ a a' && fitI tb θ b b'
  | .cv k a, .cv k' a' => k == k' && fitI tb θ a a'
  | _, _ => false
def fitB (tb : List (X × X)) (θ : Sb) : X → X → Bool
  | .bvar j, y => cEq tb (θ.b j) y
  | .tt b, .tt b' => b == b'
  | .not a, .not a' => fitB tb θ a a'
  | .cmp op a b, .cmp op' a' b' => op == op' && fitI tb θ a a' && fitI tb θ b b'
  | _, _ => false
def fitS (tb : List (X × X)) (θ : Sb) : X → X → Bool
  | .svar j, y => cEq tb (θ.s j) y
  | .sl l, .sl l' => l == l'
  | _, _ => false

section
variable {σ : Vl} {tb : List (X × X)} (ht : ∀ p ∈ tb, p.1.d σ = p.2.d σ) {θ : Sb}
include ht

theorem fitI_d : ∀ (x y : X), fitI tb θ x y = true → x.I (σ.sub θ) = y.I σ := by
  intro x
  induction x <;> intro y h <;> unfold fitI at h
  case var j => have := cEq_d ht _ _ h; simp only [X.I, X.d, Vl.sub]; rw [this]
  case lit n => cases y <;> simp only [Bool.false_eq_true, beq_iff_eq] at h; rw [h]; rfl
  case ar iha ihb => 
    cases y <;> simp only [Bool.false_eq_true, Bool.and_eq_true, beq_iff_eq] at h
    obtain ⟨⟨⟨rfl, rfl⟩, h1⟩, h2⟩ := h
    have e1 := iha _ h1; have e2 := ihb _ h2
    simp only [X.I] at e1 e2
    simp only [X.I, X.d, e1, e2]
  case cv iha =>
    cases y <;> simp only [Bool.false_eq_true, Bool.and_eq_true, beq_iff_eq] at h
    obtain ⟨rfl, h1⟩ := h
    have e1 := iha _ h1
    simp only [X.I] at e1
    simp only [X.I, X.d, e1]
  all_goals cases h

theorem fitB_d : ∀ (x y : X), fitB tb θ x y = true → x.B (σ.sub θ) = y.B σ := by
  intro x
  induction x <;> intro y h <;> unfold fitB at h
  case bvar j => have := cEq_d ht _ _ h; simp only [X.B, X.d, Vl.sub]; rw [this]
  case tt n => cases y <;> simp only [Bool.false_eq_true, beq_iff_eq] at h; rw [h]; rfl
  case not iha =>
    cases y <;> simp only [Bool.false_eq_true] at h
    have e1 := iha _ h
    simp only [X.B] at e1
    simp only [X.B, X.d, e1]
  case cmp iha ihb =>
    cases y <;> simp only [Bool.false_eq_true, Bool.and_eq_true, beq_iff_eq] at h
    obtain ⟨⟨rfl, h1⟩, h2⟩ := h
    have e1 := fitI_d ht _ _ h1; have e2 := fitI_d ht _ _ h2
    simp only [X.I] at e1 e2
    simp only [X.B, X.d, e1, e2]
  all_goals cases h

theorem fitS_d : ∀ (x y : X), fitS tb θ x y = true → x.S (σ.sub θ) = y.S σ := by
  intro x
  cases x <;> intro y h <;> unfold fitS at h
  case svar j => have := cEq_d ht _ _ h; simp only [X.S, X.d, Vl.sub]; rw [this]
  case sl n => cases y <;> simp only [Bool.false_eq_true, beq_iff_eq] at h; rw [h]; rfl
  all_goals cases h

end

/-! ## values -/

def fitP (θ : Sb) : Option (Nat × Nat) → Option (Nat × Nat) → Bool
  | none, none => true
  | some p, some q => θ.π[p.1]? == some q.1 && p.2 == q.2
  | _, _ => false

def fitC (θ : Sb) : Nat → CX → CX → Bool
  | _, .exact n, .exact n' => n == n'
  | len, .unk j, .exact n' => θ.κ[j]? == some (.exact n') && Nat.ble len n'
  | _, .unk j, .unk j' => θ.κ[j]? == some (.unk j')
  | _, _, _ => false

mutual
def fitV (tb : List (X × X)) (θ : Sb) : SV → SV → Bool
  | .bad, _ => true
  | .bool x, .bool y => fitB tb θ x y
  | .int k x, .int k' y => k == k' && fitI tb θ x y
  | .str x, .str y => fitS tb θ x y
  | .ptr a, .ptr b => fitP θ a b
  | .sl a n c, .sl b n' c' => fitP θ a b && n == n' && fitC θ n c c'
  | .map none, .map none => true
  | .map (some r), .map (some r') => θ.π[r]? == some r'
  | .func f a b, .func f' a' b' => f == f' && fitL tb θ a a' && fitL tb θ b b'
  | .nilFunc, .nilFunc => true
  | .iface t x, .iface t' y => t == t' && fitV tb θ x y
  | .nilIface, .nilIface => true
  | .agg xs, .agg ys => fitL tb θ xs ys
  | .tup xs, .tup ys => fitL tb θ xs ys
  | .opq i, .opq j => θ.v i == j
  | _, _ => false
def fitL (tb : List (X × X)) (θ : Sb) : List SV → List SV → Bool
  | [], [] => true
  | x :: xs, y :: ys => fitV tb θ x y && fitL tb θ xs ys
  | _, _ => false
end

def capOf (m : Md) : CX → Nat
  | .exact n => n
  | .unk j => m.κ.getD j 0

def Md.sub (m : Md) (θ : Sb) : Md := ⟨θ.π.map fun i => m.ρ.getD i 0, θ.κ.map (capOf m)⟩

section
variable {σ : Vl} {tb : List (X × X)} (ht : ∀ p ∈ tb, p.1.d σ = p.2.d σ) {θ : Sb} {m : Md}

theorem sub_ρ {i i' B : Nat} (h : θ.π[i]? = some i') (hB : m.ρ[i']? = some B) : (m.sub θ).ρ[i]? = some B := by
  simp [Md.sub, h, List.getD, hB]

theorem fitC_cap {len : Nat} {c c' : CX} {C : Nat} (h : fitC θ len c c' = true) (hc : capR m len c' C) : capR (m.sub θ) len c C := by
  cases c <;> cases c' <;> simp only [fitC, Bool.false_eq_true, beq_iff_eq, Bool.and_eq_true] at h
  · subst h; exact hc
  · obtain ⟨h1, h2⟩ := h
    simp only [capR] at hc
    subst hc
    exact ⟨by simp [Md.sub, h1, capOf], Nat.le_of_ble_eq_true h2⟩
  · obtain ⟨h1, h2⟩ := hc
    exact ⟨by simp [Md.sub, h, capOf, List.getD, h1], h2⟩

include ht

mutual
theorem fitV_R : ∀ (x y : SV) (v : Value), fitV tb θ x y = true → R σ m y v → R (σ.sub θ) (m.sub θ) x v
  | .bad, _, _, _, _ => R_bad _ _ _
  | .bool x, y, v, h, hr => by
    cases y <;> unfold fitV at h <;> try (cases h; done)
    unfold R at hr ⊢; rw [fitB_d ht _ _ h]; exact hr
  | .int k x, y, v, h, hr => by
    cases y <;> unfold fitV at h <;> try (cases h; done)
    simp only [Bool.and_eq_true, beq_iff_eq] at h
    unfold R at hr ⊢; rw [fitI_d ht _ _ h.2, h.1]; exact hr
  | .str x, y, v, h, hr => by
    cases y <;> unfold fitV at h <;> try (cases h; done)
    unfold R at hr ⊢; rw [fitS_d ht _ _ h]; exact hr
  | .ptr a, y, v, h, hr => by
    cases y <;> unfold fitV at h <;> try (cases h; done)
    rename_i b
    cases a <;> cases b <;> simp only [fitP, Bool.false_eq_true, Bool.and_eq_true, beq_iff_eq] at h
    · unfold R at hr ⊢; exact hr
    · unfold R at hr ⊢; obtain ⟨B, h1, rfl⟩ := hr; exact ⟨B, sub_ρ h.1 h1, by rw [h.2]⟩
  | .sl a n c, y, v, h, hr => by
    cases y <;> unfold fitV at h <;> try (cases h; done)
    rename_i b n' c'
    simp only [Bool.and_eq_true, beq_iff_eq] at h
    obtain ⟨⟨h1, rfl⟩, h3⟩ := h
    cases a <;> cases b <;> simp only [fitP, Bool.false_eq_true, Bool.and_eq_true, beq_iff_eq] at h1
    · unfold R at hr ⊢; obtain ⟨C, k1, rfl⟩ := hr; exact ⟨C, fitC_cap h3 k1, rfl⟩
    · unfold R at hr ⊢; obtain ⟨B, C, k0, k1, rfl⟩ := hr; exact ⟨B, C, sub_ρ h1.1 k0, fitC_cap h3 k1, by rw [h1.2]⟩
  | .map none, y, v, h, hr => by
    cases y <;> unfold fitV at h <;> try (cases h; done)
    rename_i r; cases r <;> simp only [Bool.false_eq_true] at h
    unfold R at hr ⊢; exact hr
  | .map (some r), y, v, h, hr => by
    cases y <;> unfold fitV at h <;> try (cases h; done)
    rename_i r; cases r <;> simp only [Bool.false_eq_true, beq_iff_eq] at h
    unfold R at hr ⊢; obtain ⟨B, h1, rfl⟩ := hr; exact ⟨B, sub_ρ h h1, rfl⟩
  | .func f a b, y, v, h, hr => by
    cases y <;> unfold fitV at h <;> try (cases h; done)
    simp only [Bool.and_eq_true, beq_iff_eq] at h
    unfold R at hr ⊢
    obtain ⟨va, vb, rfl, h1, h2⟩ := hr
    exact ⟨va, vb, by rw [h.1.1], fitL_R _ _ _ h.1.2 h1, fitL_R _ _ _ h.2 h2⟩
  | .nilFunc, y, v, h, hr => by
    cases y <;> unfold fitV at h <;> try (cases h; done)
    unfold R at hr ⊢; exact hr
  | .iface t x, y, v, h, hr => by
    cases y <;> unfold fitV at h <;> try (cases h; done)
    simp only [Bool.and_eq_true, beq_iff_eq] at h
    unfold R at hr ⊢
    obtain ⟨u, rfl, h1⟩ := hr
    exact ⟨u, by rw [h.1], fitV_R _ _ _ h.2 h1⟩
  | .nilIface, y, v, h, hr => by
    cases y <;> unfold fitV at h <;> try (cases h; done)
    unfold R at hr ⊢; exact hr
  | .agg xs, y, v, h, hr => by
    cases y <;> unfold fitV at h <;> try (cases h; done)
    unfold R at hr ⊢; obtain ⟨vs, rfl, h1⟩ := hr; exact ⟨vs, rfl, fitL_R _ _ _ h h1⟩
  | .tup xs, y, v, h, hr => by
    cases y <;> unfold fitV at h <;> try (cases h; done)
    unfold R at hr ⊢; obtain ⟨vs, rfl, h1⟩ := hr; exact ⟨vs, rfl, fitL_R _ _ _ h h1⟩
  | .opq i, y, v, h, hr => by
    cases y <;> unfold fitV at h <;> try (cases h; done)
    simp only [beq_iff_eq] at h
    unfold R at hr ⊢; simp only [Vl.sub]; rw [h]; exact hr
theorem fitL_R : ∀ (xs ys : List SV) (vs : List Value), fitL tb θ xs ys = true → RL σ m ys vs → RL (σ.sub θ) (m.sub θ) xs vs
  | [], [], vs, _, hr => by have _ := ht; rw [RL_nil] at *; exact hr
  | x :: xs, y :: ys, vs, h, hr => by
    unfold fitL at h
    simp only [Bool.and_eq_true] at h
    rw [RL_cons] at *
    obtain ⟨v, vs', rfl, h1, h2⟩ := hr
    exact ⟨v, vs', rfl, fitV_R _ _ _ h.1 h1, fitL_R _ _ _ h.2 h2⟩
  | [], _ :: _, _, h, _ => by unfold fitL at h; cases h
  | _ :: _, [], _, h, _ => by unfold fitL at h; cases h
end

end

end Go.Sy
