/- A symbolic evaluator for the model's programs: what a symbolic state stands for. -/
import Derived.Test.YtfbhiknjhcbfoaaDoorSy3
namespace Go.Sy

/-! ## terms -/

theorem X.lit_or (a : X) : (∃ n, a = .lit n) ∨ (∀ (d : X) (f : Int → X), a.onLit d f = d) := by
  cases a <;> first | exact .inl ⟨_, rfl⟩ | exact .inr fun _ _ => rfl
theorem mkAr_d (σ : Vl) (op : BinOp) (k : IntKind) (a b : X) : (mkAr op k a b).d σ = (X.ar op k a b).d σ := by
  unfold mkAr
  rcases a.lit_or with ⟨n, rfl⟩ | h
  · rcases b.lit_or with ⟨m, rfl⟩ | h
    · rfl
    · show X.d σ (b.onLit _ _) = _; rw [h]
  · rw [h]
theorem mkCv_d (σ : Vl) (k : IntKind) (a : X) : (mkCv k a).d σ = (X.cv k a).d σ := by
  unfold mkCv; split <;> simp [X.d]
theorem mkCmpX_d (σ : Vl) (op : BinOp) (a b : X) : (mkCmpX op a b).d σ = (X.cmp op a b).d σ := by
  unfold mkCmpX
  cases h : a.is b with
  | true => have := (X.is_iff a b).1 h; subst this; cases op <;> simp [X.d, cmpD]
  | false =>
    show X.d σ (match op with | .neq => _ | .geq => _ | .gtr => _ | .leq => _ | op => _) = _
    split
    · simp only [X.d, cmpD, bne]
    · simp only [X.d, cmpD, D.mk.injEq, true_and, and_true]; rw [Bool.eq_iff_iff]; simp
    · simp only [X.d, cmpD]
    · simp only [X.d, cmpD, D.mk.injEq, true_and, and_true]; rw [Bool.eq_iff_iff]; simp
    · rfl
theorem mkCmp_d (σ : Vl) (op : BinOp) (a b : X) : (mkCmp op a b).d σ = (X.cmp op a b).d σ := by
  unfold mkCmp
  rcases a.lit_or with ⟨n, rfl⟩ | h
  · rcases b.lit_or with ⟨m, rfl⟩ | h
    · rfl
    · show X.d σ (b.onLit _ _) = _; rw [h, mkCmpX_d]
  · rw [h, mkCmpX_d]
theorem mkNot_B (σ : Vl) (a : X) : (mkNot a).B σ = !(a.B σ) := by
  unfold mkNot; split
  · simp [X.B, X.d]
  · split <;> simp [X.B, X.d]
  · simp [X.B, X.d]
theorem mkIte_d (σ : Vl) (c a b : X) : (mkIte c a b).d σ = if c.B σ then a.d σ else b.d σ := by
  unfold mkIte; split
  · rename_i t; cases t <;> simp [X.B, X.d]
  · split
    · rename_i h; subst h; simp
    · simp [X.B, X.d]
theorem mkBeq_B (σ : Vl) (a b : X) : (mkBeq a b).B σ = (a.B σ == b.B σ) := by
  unfold mkBeq; split <;> simp [X.B, X.d]
theorem mkSeq_B (σ : Vl) (a b : X) : (mkSeq a b).B σ = (a.S σ == b.S σ) := by
  unfold mkSeq; split
  · simp [X.B, X.S, X.d]
  · simp [X.B, X.d]
theorem mkLen_I (σ : Vl) (a : X) : (mkLen a).I σ = (a.S σ).length := by
  unfold mkLen; split
  · simp [X.I, X.S, X.d]
  · simp [X.I, X.d]
theorem mkMn_d (σ : Vl) (a b : X) : (mkMn a b).d σ = (X.mn a b).d σ := by
  unfold mkMn; split <;> rfl
theorem mkMx_d (σ : Vl) (a b : X) : (mkMx a b).d σ = (X.mx a b).d σ := by
  unfold mkMx; split <;> rfl

def PC (σ : Vl) (pc : List X) : Prop := ∀ c ∈ pc, c.B σ = true

theorem PC.cons {σ : Vl} {c : X} {pc : List X} : PC σ (c :: pc) ↔ c.B σ = true ∧ PC σ pc := by
  simp [PC]
theorem PC.append {σ : Vl} {a b : List X} : PC σ (a ++ b) ↔ PC σ a ∧ PC σ b := by
  simp only [PC, List.mem_append]
  constructor
  · intro h; exact ⟨fun c hc => h c (.inl hc), fun c hc => h c (.inr hc)⟩
  · rintro ⟨h, k⟩ c (hc | hc)
    · exact h c hc
    · exact k c hc
theorem PC.nil {σ : Vl} : PC σ [] := by simp [PC]

theorem not_B (σ : Vl) (c : X) : (X.not c).B σ = !(c.B σ) := rfl

theorem known_sound {σ : Vl} {pc : List X} {c : X} {b : Bool} (h : known pc c = some b) (hp : PC σ pc) : c.B σ = b := by
  unfold known at h
  split at h
  · cases h; rfl
  · split at h
    · rename_i hc; cases h
      simp only [Bool.or_eq_true, List.contains_eq_mem, decide_eq_true_eq] at hc
      rcases hc with hc | hc
      · exact hp _ hc
      · have := hp _ hc
        rw [not_B, not_B] at this; simpa using this
    · split at h
      · rename_i hc; cases h
        have := hp _ (by simpa using hc)
        rw [not_B] at this; simpa using this
      · split at h
        · split at h
          · rename_i hc; cases h
            have := hp _ (by simpa using hc)
            rw [not_B, this]; rfl
          · cases h
        · cases h

theorem ways_some {σ : Vl} {pc : List X} : ∀ {cs cs' : List X}, ways pc cs = some cs' → PC σ pc → (PC σ cs' ↔ PC σ cs)
  | [], cs', h, _ => by cases h; exact Iff.rfl
  | c :: rest, cs', h, hp => by
    unfold ways at h
    split at h
    · rename_i hk
      rw [PC.cons, ways_some h hp]
      have := known_sound hk hp
      simp [this]
    · cases h
    · obtain ⟨l, hl, rfl⟩ := Option.map_eq_some_iff.1 h
      rw [PC.cons, PC.cons, ways_some hl hp]

theorem ways_none {σ : Vl} {pc : List X} : ∀ {cs : List X}, ways pc cs = none → PC σ pc → ¬ PC σ cs
  | [], h, _ => by cases h
  | c :: rest, h, hp => by
    unfold ways at h
    split at h
    · rw [PC.cons]; intro ⟨_, k⟩; exact ways_none h hp k
    · rename_i hk
      have := known_sound hk hp
      rw [PC.cons]; intro ⟨k, _⟩; rw [this] at k; cases k
    · rw [Option.map_eq_none_iff] at h
      rw [PC.cons]; intro ⟨_, k⟩; exact ways_none h hp k

/-! ## tries -/

theorem T.get_setF {α : Type} : ∀ (f : Nat) (t : T α) (n m : Nat) (x : Option α), n < f → (T.setF f t n x).get m = if m = n then x else t.get m
  | 0, _, _, _, _, h => by omega
  | f + 1, .nil, n, m, x, h => by
    unfold T.setF
    split
    · rename_i h0; subst h0
      unfold T.get
      split
      · simp [*]
      · split <;> simp [*, T.get]
    · split
      · rename_i h0 h1
        have ih := fun m' => T.get_setF f (.nil : T α) (n / 2) m' x (by omega)
        simp only [T.get, ih]
        split
        · rename_i hm; subst hm; simp; omega
        · split
          · by_cases e : m = n
            · subst e; simp
            · have : ¬ m / 2 = n / 2 := by omega
              simp [e, this]
          · by_cases e : m = n
            · subst e; omega
            · simp [e]
      · rename_i h0 h1
        have ih := fun m' => T.get_setF f (.nil : T α) (n / 2 - 1) m' x (by omega)
        simp only [T.get, ih]
        split
        · rename_i hm; subst hm; simp; omega
        · split
          · by_cases e : m = n
            · subst e; omega
            · simp [e]
          · by_cases e : m = n
            · subst e; simp
            · have : ¬ m / 2 - 1 = n / 2 - 1 := by omega
              simp [e, this]
  | f + 1, .node l v r, n, m, x, h => by
    unfold T.setF
    split
    · rename_i h0; subst h0
      unfold T.get
      split
      · simp [*]
      · split <;> simp [*]
    · split
      · rename_i h0 h1
        have ih := fun m' => T.get_setF f l (n / 2) m' x (by omega)
        simp only [T.get, ih]
        split
        · rename_i hm; subst hm
          rw [if_neg (by omega)]
        · split
          · by_cases e : m = n
            · subst e; simp
            · have : ¬ m / 2 = n / 2 := by omega
              simp [e, this]
          · by_cases e : m = n
            · subst e; omega
            · simp [e]
      · rename_i h0 h1
        have ih := fun m' => T.get_setF f r (n / 2 - 1) m' x (by omega)
        simp only [T.get, ih]
        split
        · rename_i hm; subst hm
          rw [if_neg (by omega)]
        · split
          · by_cases e : m = n
            · subst e; omega
            · simp [e]
          · by_cases e : m = n
            · subst e; simp
            · have : ¬ m / 2 - 1 = n / 2 - 1 := by omega
              simp [e, this]

theorem T.get_set {α : Type} (t : T α) (n m : Nat) (x : Option α) : (t.set n x).get m = if m = n then x else t.get m :=
  T.get_setF (n + 1) t n m x (by omega)

theorem T.get_put {α : Type} (t : T α) (n m : Nat) (x : α) : (t.put n x).get m = if m = n then some x else t.get m := by
  induction t generalizing n m with
  | nil => unfold T.put; rw [T.get_setF _ _ _ _ _ (by omega)]
  | node l v r ihl ihr =>
    unfold T.put
    by_cases h0 : n = 0
    · subst h0
      rw [if_pos rfl, T.get_node, T.get_node]
      by_cases hm : m = 0 <;> simp [hm]
    · rw [if_neg h0]
      by_cases h2 : n % 2 = 1
      · rw [if_pos h2, T.get_node, T.get_node, ihl]
        by_cases hm : m = 0
        · subst hm; simp [show ¬ (0 = n) from fun e => h0 e.symm]
        · by_cases hm2 : m % 2 = 1
          · by_cases e : m = n
            · subst e; simp [hm, hm2]
            · have : ¬ m / 2 = n / 2 := by omega
              simp [hm, hm2, e, this]
          · have : ¬ m = n := by intro e; subst e; exact hm2 h2
            simp [hm, hm2, this]
      · rw [if_neg h2, T.get_node, T.get_node, ihr]
        by_cases hm : m = 0
        · subst hm; simp [show ¬ (0 = n) from fun e => h0 e.symm]
        · by_cases hm2 : m % 2 = 1
          · have : ¬ m = n := by intro e; subst e; exact h2 hm2
            simp [hm, hm2, this]
          · by_cases e : m = n
            · subst e; simp [hm, hm2]
            · have : ¬ m / 2 - 1 = n / 2 - 1 := by omega
              simp [hm, hm2, e, this]


@[simp] theorem T.get_nil {α : Type} (n : Nat) : (T.nil : T α).get n = none := by unfold T.get; rfl

theorem red_B {σ : Vl} {pc : List X} (hp : PC σ pc) (x : X) : (x.red pc).B σ = x.B σ := by
  induction x with
  | ite c a b _ iha ihb =>
    unfold X.red
    split
    · rename_i t ht; rw [known_sound ht hp]; rfl
    · simp only
      split
      · rename_i hc; rw [iha]; have := known_sound hc hp; simp only [X.B] at this; simp [X.B, X.d, this]
      · rename_i hc; rw [ihb]; have := known_sound hc hp; simp only [X.B] at this; simp [X.B, X.d, this]
      · rfl
  | _ =>
    unfold X.red
    split
    · rename_i t ht; rw [known_sound ht hp]; rfl
    · rfl

theorem redI_I {σ : Vl} {pc : List X} (hp : PC σ pc) (x : X) : (x.redI pc).I σ = x.I σ := by
  induction x with
  | ite c a b _ iha ihb =>
    unfold X.redI
    split
    · rename_i hc; rw [iha]; have := known_sound hc hp; simp only [X.B] at this; simp [X.I, X.d, this]
    · rename_i hc; rw [ihb]; have := known_sound hc hp; simp only [X.B] at this; simp [X.I, X.d, this]
    · rfl
  | _ => rfl

/-! ## what a symbolic value stands for -/

structure Md where
  ρ : List Nat
  κ : List Nat

def capR (m : Md) (len : Nat) : CX → Nat → Prop
  | .exact n, C => C = n
  | .unk j, C => m.κ[j]? = some C ∧ len ≤ C

mutual
def R (σ : Vl) (m : Md) : SV → Value → Prop
  | .bad, _ => True
  | .bool b, v => v = .bool (b.B σ)
  | .int k x, v => v = .int k (x.I σ)
  | .str s, v => v = .string ⟨(s.S σ).toArray⟩
  | .ptr none, v => v = .pointer none
  | .ptr (some p), v => ∃ B, m.ρ[p.1]? = some B ∧ v = .pointer (some ⟨B, p.2, none⟩)
  | .sl none n c, v => ∃ C, capR m n c C ∧ v = .slice none n C
  | .sl (some p) n c, v => ∃ B C, m.ρ[p.1]? = some B ∧ capR m n c C ∧ v = .slice (some ⟨B, p.2, none⟩) n C
  | .map none, v => v = .map none
  | .map (some r), v => ∃ B, m.ρ[r]? = some B ∧ v = .map (some B)
  | .func fn a b, v => ∃ va vb, v = .func fn (List.toArray va) (List.toArray vb) ∧ RL σ m a va ∧ RL σ m b vb
  | .nilFunc, v => v = .nilFunc
  | .iface t x, v => ∃ y, v = .iface t y ∧ R σ m x y
  | .nilIface, v => v = .nilIface
  | .agg cs, v => ∃ vs, v = .agg (List.toArray vs) ∧ RL σ m cs vs
  | .tup cs, v => ∃ vs, v = .tuple (List.toArray vs) ∧ RL σ m cs vs
  | .opq i, v => v = σ.v i
def RL (σ : Vl) (m : Md) : List SV → List Value → Prop
  | [], vs => vs = []
  | x :: xs, vs => ∃ v vs', vs = v :: vs' ∧ R σ m x v ∧ RL σ m xs vs'
end

theorem RL_nil {σ : Vl} {m : Md} {vs : List Value} : RL σ m [] vs ↔ vs = [] := by unfold RL; exact Iff.rfl
theorem RL_cons {σ : Vl} {m : Md} {x : SV} {xs : List SV} {vs : List Value} : RL σ m (x :: xs) vs ↔ ∃ v vs', vs = v :: vs' ∧ R σ m x v ∧ RL σ m xs vs' := by
  conv => lhs; unfold RL
theorem RL_cons' {σ : Vl} {m : Md} {x : SV} {xs : List SV} {v : Value} {vs : List Value} : RL σ m (x :: xs) (v :: vs) ↔ R σ m x v ∧ RL σ m xs vs := by
  rw [RL_cons]
  constructor
  · rintro ⟨_, _, h, a, b⟩; cases h; exact ⟨a, b⟩
  · rintro ⟨a, b⟩; exact ⟨_, _, rfl, a, b⟩

theorem R_red {σ : Vl} {m : Md} {pc : List X} (hp : PC σ pc) {x : SV} {v : Value} (h : R σ m x v) : R σ m (x.red pc) v := by
  cases x <;> try exact h
  · unfold SV.red; unfold R at h ⊢; rw [red_B hp]; exact h
  · unfold SV.red; unfold R at h ⊢; rw [redI_I hp]; exact h

theorem RL_length {σ : Vl} {m : Md} : ∀ {xs : List SV} {vs : List Value}, RL σ m xs vs → vs.length = xs.length
  | [], vs, h => by rw [RL_nil] at h; subst h; rfl
  | x :: xs, vs, h => by
    rw [RL_cons] at h
    obtain ⟨v, vs', rfl, _, h⟩ := h
    simp [RL_length h]

theorem RL_get {σ : Vl} {m : Md} : ∀ {xs : List SV} {vs : List Value}, RL σ m xs vs → ∀ (i : Nat) (x : SV), xs[i]? = some x → ∃ v, vs[i]? = some v ∧ R σ m x v
  | [], _, _, i, x, h => by simp at h
  | x :: xs, vs, h, i, y, hy => by
    rw [RL_cons] at h
    obtain ⟨v, vs', rfl, h1, h2⟩ := h
    cases i with
    | zero => simp at hy; subst hy; exact ⟨v, by simp, h1⟩
    | succ i => simp at hy; obtain ⟨u, hu, hr⟩ := RL_get h2 i y hy; exact ⟨u, by simpa using hu, hr⟩

theorem RL_of_get {σ : Vl} {m : Md} : ∀ {xs : List SV} {vs : List Value}, vs.length = xs.length → (∀ (i : Nat) x v, xs[i]? = some x → vs[i]? = some v → R σ m x v) → RL σ m xs vs
  | [], vs, h, _ => by rw [RL_nil]; simpa using h
  | x :: xs, [], h, _ => by simp at h
  | x :: xs, v :: vs, h, k => by
    rw [RL_cons']
    exact ⟨k 0 x v (by simp) (by simp), RL_of_get (by simpa using h) fun i y u hy hu => k (i + 1) y u (by simpa using hy) (by simpa using hu)⟩

theorem RL_append {σ : Vl} {m : Md} {xs ys : List SV} {vs us : List Value} (h : RL σ m xs vs) (k : RL σ m ys us) : RL σ m (xs ++ ys) (vs ++ us) := by
  induction xs generalizing vs with
  | nil => rw [RL_nil] at h; subst h; simpa using k
  | cons x xs ih =>
    rw [RL_cons] at h
    obtain ⟨v, vs', rfl, h1, h2⟩ := h
    simp only [List.cons_append, RL_cons']
    exact ⟨h1, ih h2⟩

theorem RL_take {σ : Vl} {m : Md} {xs : List SV} {vs : List Value} (n : Nat) (h : RL σ m xs vs) : RL σ m (xs.take n) (vs.take n) := by
  induction xs generalizing vs n with
  | nil => rw [RL_nil] at h; subst h; simp [RL_nil]
  | cons x xs ih =>
    rw [RL_cons] at h
    obtain ⟨v, vs', rfl, h1, h2⟩ := h
    cases n with
    | zero => simp [RL_nil]
    | succ n => simp only [List.take_succ_cons, RL_cons']; exact ⟨h1, ih n h2⟩

theorem RL_drop {σ : Vl} {m : Md} {xs : List SV} {vs : List Value} (n : Nat) (h : RL σ m xs vs) : RL σ m (xs.drop n) (vs.drop n) := by
  induction xs generalizing vs n with
  | nil => rw [RL_nil] at h; subst h; simp [RL_nil]
  | cons x xs ih =>
    cases n with
    | zero => simpa using h
    | succ n =>
      rw [RL_cons] at h
      obtain ⟨v, vs', rfl, h1, h2⟩ := h
      simpa using ih n h2

theorem RL_set {σ : Vl} {m : Md} {xs : List SV} {vs : List Value} (h : RL σ m xs vs) (i : Nat) {x : SV} {v : Value} (hx : R σ m x v) : RL σ m (xs.set i x) (vs.set i v) := by
  induction xs generalizing vs i with
  | nil => rw [RL_nil] at h; subst h; simp [RL_nil]
  | cons y ys ih =>
    rw [RL_cons] at h
    obtain ⟨u, us, rfl, h1, h2⟩ := h
    cases i with
    | zero => simp only [List.set_cons_zero, RL_cons']; exact ⟨hx, h2⟩
    | succ i => simp only [List.set_cons_succ, RL_cons']; exact ⟨h1, ih h2 i⟩

structure Md.le (m m' : Md) : Prop where
  r : ∃ l, m'.ρ = m.ρ ++ l
  k : ∃ l, m'.κ = m.κ ++ l
theorem Md.le_refl (m : Md) : m.le m := ⟨⟨[], by simp⟩, ⟨[], by simp⟩⟩
theorem Md.le.trans {a b c : Md} (h : a.le b) (k : b.le c) : a.le c := by
  obtain ⟨⟨l1, h1⟩, ⟨l2, h2⟩⟩ := h
  obtain ⟨⟨l3, h3⟩, ⟨l4, h4⟩⟩ := k
  exact ⟨⟨l1 ++ l3, by rw [h3, h1, List.append_assoc]⟩, ⟨l2 ++ l4, by rw [h4, h2, List.append_assoc]⟩⟩
theorem Md.le.le_ρ {m m' : Md} (h : m.le m') {i B : Nat} (hi : m.ρ[i]? = some B) : m'.ρ[i]? = some B := by
  obtain ⟨⟨l, h⟩, _⟩ := h
  rw [h, List.getElem?_append_left ((List.getElem?_eq_some_iff.1 hi).1)]; exact hi
theorem Md.le.le_κ {m m' : Md} (h : m.le m') {i B : Nat} (hi : m.κ[i]? = some B) : m'.κ[i]? = some B := by
  obtain ⟨_, ⟨l, h⟩⟩ := h
  rw [h, List.getElem?_append_left ((List.getElem?_eq_some_iff.1 hi).1)]; exact hi
theorem capR_mono {m m' : Md} (h : m.le m') {n : Nat} {c : CX} {C : Nat} (hc : capR m n c C) : capR m' n c C := by
  cases c with
  | exact n => exact hc
  | unk j => exact ⟨h.le_κ hc.1, hc.2⟩

mutual
theorem R_mono {σ : Vl} {m m' : Md} (h : m.le m') : ∀ (x : SV) (v : Value), R σ m x v → R σ m' x v
  | .bad, _, _ => by unfold R; trivial
  | .bool _, _, k => by unfold R at *; exact k
  | .int _ _, _, k => by unfold R at *; exact k
  | .str _, _, k => by unfold R at *; exact k
  | .ptr none, _, k => by unfold R at *; exact k
  | .ptr (some p), _, k => by unfold R at *; obtain ⟨B, h1, h2⟩ := k; exact ⟨B, h.le_ρ h1, h2⟩
  | .sl none _ _, _, k => by unfold R at *; obtain ⟨C, h1, h2⟩ := k; exact ⟨C, capR_mono h h1, h2⟩
  | .sl (some p) _ _, _, k => by unfold R at *; obtain ⟨B, C, h1, h2, h3⟩ := k; exact ⟨B, C, h.le_ρ h1, capR_mono h h2, h3⟩
  | .map none, _, k => by unfold R at *; exact k
  | .map (some r), _, k => by unfold R at *; obtain ⟨B, h1, h2⟩ := k; exact ⟨B, h.le_ρ h1, h2⟩
  | .func fn a b, _, k => by
    unfold R at *
    obtain ⟨va, vb, h1, h2, h3⟩ := k
    exact ⟨va, vb, h1, RL_mono h a va h2, RL_mono h b vb h3⟩
  | .nilFunc, _, k => by unfold R at *; exact k
  | .iface t x, _, k => by unfold R at *; obtain ⟨y, h1, h2⟩ := k; exact ⟨y, h1, R_mono h x y h2⟩
  | .nilIface, _, k => by unfold R at *; exact k
  | .agg cs, _, k => by unfold R at *; obtain ⟨vs, h1, h2⟩ := k; exact ⟨vs, h1, RL_mono h cs vs h2⟩
  | .tup cs, _, k => by unfold R at *; obtain ⟨vs, h1, h2⟩ := k; exact ⟨vs, h1, RL_mono h cs vs h2⟩
  | .opq _, _, k => by unfold R at *; exact k
theorem RL_mono {σ : Vl} {m m' : Md} (h : m.le m') : ∀ (xs : List SV) (vs : List Value), RL σ m xs vs → RL σ m' xs vs
  | [], _, k => by rw [RL_nil] at *; exact k
  | x :: xs, _, k => by
    rw [RL_cons] at *
    obtain ⟨v, vs', h1, h2, h3⟩ := k
    exact ⟨v, vs', h1, R_mono h x v h2, RL_mono h xs vs' h3⟩
end

end Go.Sy
