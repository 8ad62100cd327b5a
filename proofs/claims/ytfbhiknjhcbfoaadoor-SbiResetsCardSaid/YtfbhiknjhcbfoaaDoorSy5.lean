/- A symbolic evaluator for the model's programs: merging; memory. -/
import Derived.Test.YtfbhiknjhcbfoaaDoorSy4
namespace Go.Sy

theorem R_bad (σ : Vl) (m : Md) (v : Value) : R σ m .bad v := by unfold R; trivial

theorem R_ofS (σ : Vl) (m : Md) (v : Value) : R σ m (ofS v) v := by
  cases v with
  | bool b => simp [ofS, R, X.B, X.d]
  | int k n => simp [ofS, R, X.I, X.d]
  | string s => simp [ofS, R, X.S, X.d]
  | pointer a => cases a with
    | none => simp [ofS, R]
    | some a => exact R_bad _ _ _
  | slice a n c => cases a with
    | none => simp [ofS, R, capR]
    | some a => exact R_bad _ _ _
  | map r => cases r with
    | none => simp [ofS, R]
    | some a => exact R_bad _ _ _
  | nilFunc => simp [ofS, R]
  | nilIface => simp [ofS, R]
  | func fn a b =>
    obtain ⟨a⟩ := a
    obtain ⟨b⟩ := b
    cases a with
    | nil =>
      cases b with
      | nil =>
        show R σ m (.func fn [] []) _
        unfold R
        exact ⟨[], [], rfl, RL_nil.2 rfl, RL_nil.2 rfl⟩
      | cons _ _ => exact R_bad _ _ _
    | cons _ _ => exact R_bad _ _ _
  | _ => exact R_bad _ _ _

theorem RL_ofS (σ : Vl) (m : Md) : ∀ (l : List Value), RL σ m (l.map ofS) l
  | [] => RL_nil.2 rfl
  | v :: l => RL_cons'.2 ⟨R_ofS σ m v, RL_ofS σ m l⟩

theorem R_ofV (σ : Vl) (m : Md) (v : Value) : R σ m (ofV v) v := by
  unfold ofV
  split
  · rename_i cs; unfold R; exact ⟨cs.toList, by simp, RL_ofS σ m _⟩
  · rename_i cs; unfold R; exact ⟨cs.toList, by simp, RL_ofS σ m _⟩
  · exact R_ofS σ m _

/-! ## merging -/

mutual
theorem R_mrg_l {σ : Vl} {m : Md} {c : X} (hc : c.B σ = true) : ∀ (x y : SV) (v : Value), R σ m x v → R σ m (mrg c x y) v
  | x, y, v, h => by
    unfold mrg
    split
    · unfold R at *; rw [X.B, mkIte_d, hc]; simpa using h
    · split
      · rename_i e; subst e; unfold R at *; rw [X.I, mkIte_d, hc]; simpa using h
      · exact R_bad _ _ _
    · unfold R at *; rw [X.S, mkIte_d, hc]; simpa using h
    · split
      · exact h
      · exact R_bad _ _ _
    · split
      · exact h
      · exact R_bad _ _ _
    · split
      · exact h
      · exact R_bad _ _ _
    · exact h
    · exact h
    · split
      · exact h
      · exact R_bad _ _ _
    · split
      · unfold R at *; obtain ⟨vs, e, k⟩ := h; exact ⟨vs, e, RL_mrg_l hc _ _ _ ‹_› k⟩
      · exact R_bad _ _ _
    · split
      · unfold R at *; obtain ⟨vs, e, k⟩ := h; exact ⟨vs, e, RL_mrg_l hc _ _ _ ‹_› k⟩
      · exact R_bad _ _ _
    · split
      · rename_i e; obtain ⟨e1, e2, e3⟩ := e
        unfold R at *; obtain ⟨va, vb, e, k1, k2⟩ := h; exact ⟨va, vb, e, RL_mrg_l hc _ _ _ e2 k1, RL_mrg_l hc _ _ _ e3 k2⟩
      · exact R_bad _ _ _
    · split
      · rename_i e
        unfold R at *; obtain ⟨z, e, k⟩ := h; exact ⟨z, e, R_mrg_l hc _ _ _ k⟩
      · exact R_bad _ _ _
    · exact R_bad _ _ _
theorem RL_mrg_l {σ : Vl} {m : Md} {c : X} (hc : c.B σ = true) : ∀ (xs ys : List SV) (vs : List Value), xs.length = ys.length → RL σ m xs vs → RL σ m (mrgL c xs ys) vs
  | [], [], vs, _, h => by unfold mrgL; exact h
  | [], _ :: _, _, e, _ => by simp at e
  | _ :: _, [], _, e, _ => by simp at e
  | x :: xs, y :: ys, vs, e, h => by
    unfold mrgL
    rw [RL_cons] at *
    obtain ⟨v, vs', h1, h2, h3⟩ := h
    exact ⟨v, vs', h1, R_mrg_l hc x y v h2, RL_mrg_l hc xs ys vs' (by simpa using e) h3⟩
end

mutual
theorem R_mrg_r {σ : Vl} {m : Md} {c : X} (hc : c.B σ = false) : ∀ (x y : SV) (v : Value), R σ m y v → R σ m (mrg c x y) v
  | x, y, v, h => by
    unfold mrg
    split
    · unfold R at *; rw [X.B, mkIte_d, hc]; simpa using h
    · split
      · rename_i e; subst e; unfold R at *; rw [X.I, mkIte_d, hc]; simpa using h
      · exact R_bad _ _ _
    · unfold R at *; rw [X.S, mkIte_d, hc]; simpa using h
    · split
      · rename_i e; rw [e]; exact h
      · exact R_bad _ _ _
    · split
      · rename_i e; rw [e.1, e.2.1, e.2.2]; exact h
      · exact R_bad _ _ _
    · split
      · rename_i e; rw [e]; exact h
      · exact R_bad _ _ _
    · exact h
    · exact h
    · split
      · rename_i e; rw [e]; exact h
      · exact R_bad _ _ _
    · split
      · unfold R at *; obtain ⟨vs, e, k⟩ := h; exact ⟨vs, e, RL_mrg_r hc _ _ _ ‹_› k⟩
      · exact R_bad _ _ _
    · split
      · unfold R at *; obtain ⟨vs, e, k⟩ := h; exact ⟨vs, e, RL_mrg_r hc _ _ _ ‹_› k⟩
      · exact R_bad _ _ _
    · split
      · rename_i e; obtain ⟨e1, e2, e3⟩ := e
        subst e1
        unfold R at *; obtain ⟨va, vb, e, k1, k2⟩ := h; exact ⟨va, vb, e, RL_mrg_r hc _ _ _ e2 k1, RL_mrg_r hc _ _ _ e3 k2⟩
      · exact R_bad _ _ _
    · split
      · rename_i e
        subst e
        unfold R at *; obtain ⟨z, e, k⟩ := h; exact ⟨z, e, R_mrg_r hc _ _ _ k⟩
      · exact R_bad _ _ _
    · exact R_bad _ _ _
theorem RL_mrg_r {σ : Vl} {m : Md} {c : X} (hc : c.B σ = false) : ∀ (xs ys : List SV) (vs : List Value), xs.length = ys.length → RL σ m ys vs → RL σ m (mrgL c xs ys) vs
  | [], [], vs, _, h => by unfold mrgL; exact h
  | [], _ :: _, _, e, _ => by simp at e
  | _ :: _, [], _, e, _ => by simp at e
  | x :: xs, y :: ys, vs, e, h => by
    unfold mrgL
    rw [RL_cons] at *
    obtain ⟨v, vs', h1, h2, h3⟩ := h
    exact ⟨v, vs', h1, R_mrg_r hc x y v h2, RL_mrg_r hc xs ys vs' (by simpa using e) h3⟩
end

mutual
theorem same_eq : ∀ (x y : SV), SV.same x y = true → x = y
  | x, y, h => by
    unfold SV.same at h
    split at h
    all_goals first
      | rfl
      | (simp only [Bool.and_eq_true, beq_iff_eq] at h; simp only [h]; done)
      | cases h
      | skip
    · simp only [Bool.and_eq_true, beq_iff_eq] at h
      rw [h.1.1, sameL_eq _ _ h.1.2, sameL_eq _ _ h.2]
    · simp only [Bool.and_eq_true, beq_iff_eq] at h
      rw [h.1, same_eq _ _ h.2]
    · rw [sameL_eq _ _ h]
    · rw [sameL_eq _ _ h]
theorem sameL_eq : ∀ (xs ys : List SV), SV.sameL xs ys = true → xs = ys
  | [], [], _ => rfl
  | x :: xs, y :: ys, h => by
    unfold SV.sameL at h
    simp only [Bool.and_eq_true] at h
    rw [same_eq x y h.1, sameL_eq xs ys h.2]
  | [], _ :: _, h => by unfold SV.sameL at h; cases h
  | _ :: _, [], h => by unfold SV.sameL at h; cases h
end

theorem sameEs_eq : ∀ (xs ys : List (SV × SV × Nat)), sameEs xs ys = true → xs = ys
  | [], [], _ => rfl
  | (k, v, n) :: xs, (k', v', n') :: ys, h => by
    unfold sameEs at h
    simp only [Bool.and_eq_true, beq_iff_eq] at h
    rw [same_eq _ _ h.1.1.1, same_eq _ _ h.1.1.2, h.1.2, sameEs_eq xs ys h.2]
  | [], _ :: _, h => by unfold sameEs at h; cases h
  | _ :: _, [], h => by unfold sameEs at h; cases h

theorem sameO_eq (x y : SO) (h : x.same y = true) : x = y := by
  unfold SO.same at h
  split at h
  · simp only [Bool.and_eq_true, beq_iff_eq] at h
    rw [h.1.1.1, h.1.1.2, h.1.2, sameL_eq _ _ h.2]
  · simp only [Bool.and_eq_true, beq_iff_eq] at h
    rw [h.1, sameEs_eq _ _ h.2]
  · simp only [Bool.and_eq_true, beq_iff_eq] at h
    rw [h.1, h.2]
  · cases h

/-! ## memory -/

def fzR (fz : Nat × Nat) (slack : Option (Nat × Nat)) (total : Nat) (F : Nat × Nat) : Prop :=
  F = fz ∨ (slack.isSome = true ∧ F = (total, total + 1))

def slackR (m : Md) (slack : Option (Nat × Nat)) (ex : List Value) (total : Nat) : Prop :=
  match slack with
  | none => ex = []
  | some (j, sz) => ∃ C, m.κ[j]? = some C ∧ total = C * sz

def RE (σ : Vl) (m : Md) : List (SV × SV × Nat) → List MapEntry → Prop
  | [], l => l = []
  | (k, v, n) :: es, l => ∃ e l', l = e :: l' ∧ R σ m k e.key ∧ R σ m v e.val ∧ e.born = n ∧ RE σ m es l'

def RO (σ : Vl) (m : Md) : SO → Obj → Prop
  | .cells cs el sl fz, O => ∃ vs ex F, O = .cells (List.toArray (vs ++ ex)) el F ∧ RL σ m cs vs ∧ fzR fz sl (vs.length + ex.length) F ∧ slackR m sl ex (vs.length + ex.length)
  | .map es ck, O => ∃ l, O = .map (List.toArray l) ck ∧ RE σ m es l
  | .strIter s p, O => O = .stringIter ⟨s.toArray⟩ p

theorem slackR_mono {m m' : Md} (h : m.le m') {sl : Option (Nat × Nat)} {ex : List Value} {t : Nat} (k : slackR m sl ex t) : slackR m' sl ex t := by
  unfold slackR at *
  split
  · exact k
  · obtain ⟨C, h1, h2⟩ := k; exact ⟨C, h.le_κ h1, h2⟩

theorem RE_mono {σ : Vl} {m m' : Md} (h : m.le m') : ∀ (es : List (SV × SV × Nat)) (l : List MapEntry), RE σ m es l → RE σ m' es l
  | [], _, k => k
  | (a, b, n) :: es, l, k => by
    unfold RE at *
    obtain ⟨e, l', h1, h2, h3, h4, h5⟩ := k
    exact ⟨e, l', h1, R_mono h _ _ h2, R_mono h _ _ h3, h4, RE_mono h es l' h5⟩

theorem RO_mono {σ : Vl} {m m' : Md} (h : m.le m') {o : SO} {O : Obj} (k : RO σ m o O) : RO σ m' o O := by
  cases o with
  | cells cs el sl fz =>
    obtain ⟨vs, ex, F, h1, h2, h3, h4⟩ := k
    exact ⟨vs, ex, F, h1, RL_mono h _ _ h2, h3, slackR_mono h h4⟩
  | map es ck =>
    obtain ⟨l, h1, h2⟩ := k
    exact ⟨l, h1, RE_mono h _ _ h2⟩
  | strIter s p => exact k

/-- What stays outside the evaluator's sight: protected blocks, the tape, the streams. -/
structure Bs where
  Pr : Nat → Option Obj
  tape : Nat → Question → Nat
  os : Os
  out : Array (Nat × ByteArray)
  n0 : Nat

structure RW (σ : Vl) (β : Bs) (m : Md) (h : Hp) (w : World) : Prop where
  lenρ : m.ρ.length = h.nx
  lenκ : m.κ.length = h.nk
  obj : ∀ i o, h.t.get i = some o → ∃ B O, m.ρ[i]? = some B ∧ w.heap[B]? = some O ∧ RO σ m o O ∧ β.Pr B = none
  inj : ∀ i j o o', h.t.get i = some o → h.t.get j = some o' → m.ρ[i]? = m.ρ[j]? → i = j
  prot : ∀ b o, β.Pr b = some o → w.heap[b]? = some o
  tape : w.tape = β.tape
  os : w.os = β.os
  out : w.output = β.out
  size : β.n0 ≤ w.heap.size

def Md.new (m : Md) (B : Nat) : Md := ⟨m.ρ ++ [B], m.κ⟩
def Md.newk (m : Md) (B C : Nat) : Md := ⟨m.ρ ++ [B], m.κ ++ [C]⟩
theorem Md.le_new (m : Md) (B : Nat) : m.le (m.new B) := ⟨⟨[B], rfl⟩, ⟨[], by simp [Md.new]⟩⟩
theorem Md.le_newk (m : Md) (B C : Nat) : m.le (m.newk B C) := ⟨⟨[B], rfl⟩, ⟨[C], rfl⟩⟩

theorem heap_alloc_get (w : World) (o : Obj) (b : Nat) : (w.alloc o).heap[b]? = if b = w.heap.size then some o else w.heap[b]? := by
  show (w.heap.push o)[b]? = _
  rw [Array.getElem?_push]

section
variable {σ : Vl} {β : Bs} {m : Md} {h : Hp} {w : World}

theorem RW.fresh (H : RW σ β m h w) : β.Pr w.heap.size = none := by
  cases e : β.Pr w.heap.size with
  | none => rfl
  | some o => have := H.prot _ _ e; simp at this

theorem RW.lt (H : RW σ β m h w) {i : Nat} {o : SO} (hi : h.t.get i = some o) : i < h.nx := by
  obtain ⟨B, O, h1, _⟩ := H.obj i o hi
  rw [← H.lenρ]; exact (List.getElem?_eq_some_iff.1 h1).1

/-- A new block. -/
theorem RW.new (H : RW σ β m h w) {o : SO} {O : Obj} (ho : RO σ (m.new w.heap.size) o O) : RW σ β (m.new w.heap.size) (h.new o) (w.alloc O) where
  lenρ := by simp [Md.new, Hp.new, H.lenρ]
  lenκ := by simp [Md.new, Hp.new, H.lenκ]
  obj := fun i o' hi => by
    simp only [Hp.new, T.get_set] at hi
    split at hi
    · rename_i e; subst e; cases hi
      refine ⟨w.heap.size, O, ?_, by rw [heap_alloc_get, if_pos rfl], ho, H.fresh⟩
      simp [Md.new, ← H.lenρ]
    · obtain ⟨B, O', h1, h2, h3, h4⟩ := H.obj i o' hi
      refine ⟨B, O', (m.le_new _).le_ρ h1, ?_, RO_mono (m.le_new _) h3, h4⟩
      rw [heap_alloc_get, if_neg, h2]
      intro e; subst e; simp at h2
  inj := fun i j o1 o2 h1 h2 h3 => by
    simp only [Hp.new, T.get_set] at h1 h2
    by_cases e1 : i = h.nx
    · by_cases e2 : j = h.nx
      · rw [e1, e2]
      · rw [if_neg e2] at h2
        obtain ⟨B, O', k1, k2, _⟩ := H.obj j o2 h2
        rw [(m.le_new _).le_ρ k1, e1, ← H.lenρ] at h3
        simp [Md.new] at h3
        subst h3; simp at k2
    · rw [if_neg e1] at h1
      obtain ⟨B, O', k1, k2, _⟩ := H.obj i o1 h1
      by_cases e2 : j = h.nx
      · rw [(m.le_new _).le_ρ k1, e2, ← H.lenρ] at h3
        simp [Md.new] at h3
        subst h3; simp at k2
      · rw [if_neg e2] at h2
        obtain ⟨B', O'', k1', _⟩ := H.obj j o2 h2
        refine H.inj i j o1 o2 h1 h2 ?_
        rw [(m.le_new _).le_ρ k1, (m.le_new _).le_ρ k1'] at h3
        rw [k1, k1', h3]
  prot := fun b o hb => by
    rw [heap_alloc_get, if_neg, H.prot b o hb]
    intro e; subst e; rw [H.fresh] at hb; cases hb
  tape := H.tape
  os := H.os
  out := H.out
  size := by have := H.size; simp; omega

/-- Its capacity is drawn. -/
theorem RW.addk (H : RW σ β m h w) (C : Nat) : RW σ β ⟨m.ρ, m.κ ++ [C]⟩ { h with nk := h.nk + 1 } w where
  lenρ := H.lenρ
  lenκ := by simp [H.lenκ]
  obj := fun i o hi => by
    obtain ⟨B, O, h1, h2, h3, h4⟩ := H.obj i o hi
    exact ⟨B, O, h1, h2, RO_mono (m' := ⟨m.ρ, m.κ ++ [C]⟩) ⟨⟨[], by simp⟩, ⟨[C], rfl⟩⟩ h3, h4⟩
  inj := H.inj
  prot := H.prot
  tape := H.tape
  os := H.os
  out := H.out
  size := H.size

theorem RW.drew (H : RW σ β m h w) : RW σ β m h w.drew := ⟨H.lenρ, H.lenκ, H.obj, H.inj, H.prot, H.tape, H.os, H.out, H.size⟩

/-- One block B holds something else. -/
structure Turned (B : Nat) (O : Obj) (w w' : World) : Prop where
  at_ : w'.heap[B]? = some O
  other : ∀ b, b ≠ B → w'.heap[b]? = w.heap[b]?
  size : w'.heap.size = w.heap.size
  tape : w'.tape = w.tape
  os : w'.os = w.os
  out : w'.output = w.output

theorem RW.put (H : RW σ β m h w) {b B : Nat} {o o' : SO} {O' : Obj} {w' : World} (hb : h.t.get b = some o) (hB : m.ρ[b]? = some B) (ho : RO σ m o' O') (hw : Turned B O' w w') :
    RW σ β m (h.put b o') w' where
  lenρ := H.lenρ
  lenκ := H.lenκ
  obj := fun i x hi => by
    simp only [Hp.put, T.get_set] at hi
    split at hi
    · rename_i e; subst e; cases hi
      obtain ⟨B', _, h1, _, _, h4⟩ := H.obj i o hb
      rw [hB] at h1; cases h1
      exact ⟨B, O', hB, hw.at_, ho, h4⟩
    · rename_i e
      obtain ⟨B', O, h1, h2, h3, h4⟩ := H.obj i x hi
      refine ⟨B', O, h1, ?_, h3, h4⟩
      rw [hw.other, h2]
      intro e'; subst e'
      exact e (H.inj i b x o hi hb (h1.trans hB.symm))
  inj := fun i j o1 o2 h1 h2 h3 => by
    simp only [Hp.put, T.get_set] at h1 h2
    have g1 : ∃ x, h.t.get i = some x := by
      split at h1
      · rename_i e; subst e; exact ⟨_, hb⟩
      · exact ⟨_, h1⟩
    have g2 : ∃ x, h.t.get j = some x := by
      split at h2
      · rename_i e; subst e; exact ⟨_, hb⟩
      · exact ⟨_, h2⟩
    obtain ⟨x, hx⟩ := g1
    obtain ⟨y, hy⟩ := g2
    exact H.inj i j x y hx hy h3
  prot := fun b' x hx => by
    have hne : b' ≠ B := by
      intro e; subst e
      obtain ⟨B', _, h1, _, _, h4⟩ := H.obj b o hb
      rw [hB] at h1; cases h1
      rw [h4] at hx; cases hx
    rw [hw.other b' hne]; exact H.prot b' x hx
  tape := hw.tape.trans H.tape
  os := hw.os.trans H.os
  out := hw.out.trans H.out
  size := by rw [hw.size]; exact H.size

/-- Less is known. -/
theorem RW.less (H : RW σ β m h w) {t : T SO} (ht : ∀ i o, t.get i = some o → h.t.get i = some o) : RW σ β m { h with t := t } w :=
  ⟨H.lenρ, H.lenκ, fun i o hi => H.obj i o (ht i o hi), fun i j o o' h1 h2 => H.inj i j o o' (ht _ _ h1) (ht _ _ h2), H.prot, H.tape, H.os, H.out, H.size⟩

theorem RW.drop (H : RW σ β m h w) (b : Nat) : RW σ β m (h.drop b) w :=
  H.less fun i o hi => by
    simp only [T.get_set] at hi
    split at hi
    · cases hi
    · exact hi

/-- The cells of a block. -/
theorem RW.cells (H : RW σ β m h w) {b B : Nat} {cs : List SV} {el : TypeId} {sl : Option (Nat × Nat)} {fz : Nat × Nat} (hb : objCells h b = some (cs, el, sl, fz)) (hB : m.ρ[b]? = some B) :
    ∃ vs ex F, h.t.get b = some (.cells cs el sl fz) ∧ w.heap[B]? = some (.cells (List.toArray (vs ++ ex)) el F) ∧ RL σ m cs vs ∧ fzR fz sl (vs.length + ex.length) F ∧ slackR m sl ex (vs.length + ex.length) := by
  unfold objCells at hb
  split at hb
  · rename_i cs' el' sl' fz' hg
    cases hb
    obtain ⟨B', O, h1, h2, h3, _⟩ := H.obj _ _ hg
    rw [hB] at h1; cases h1
    obtain ⟨vs, ex, F, e, k1, k2, k3⟩ := h3
    subst e
    exact ⟨vs, ex, F, hg, h2, k1, k2, k3⟩
  · cases hb

end

end Go.Sy
