/- The evaluator for the kernel: operations on memory, calls. -/
import Derived.Test.YtfbhiknjhcbfoaaDoorK3
namespace Go.Sy

/-! ## the trie of objects -/

theorem T.setF_mono {α : Type} : ∀ (f f' : Nat) (t : T α) (n : Nat) (x : Option α), n < f → n < f' → T.setF f t n x = T.setF f' t n x
  | 0, _, _, _, _, h, _ => absurd h (Nat.not_lt_zero _)
  | _, 0, _, _, _, _, h => absurd h (Nat.not_lt_zero _)
  | f + 1, f' + 1, t, n, x, h, h' => by
    have e1 : ∀ t : T α, n ≠ 0 → T.setF f t (n / 2) x = T.setF f' t (n / 2) x := fun t h0 => T.setF_mono f f' t _ x (by omega) (by omega)
    have e2 : ∀ t : T α, n ≠ 0 → T.setF f t (n / 2 - 1) x = T.setF f' t (n / 2 - 1) x := fun t h0 => T.setF_mono f f' t _ x (by omega) (by omega)
    cases t with
    | nil => simp only [T.setF]; by_cases h0 : n = 0
             · simp only [h0, if_true]
             · simp only [h0, if_false, e1 _ h0, e2 _ h0]
    | node l v r => simp only [T.setF]; by_cases h0 : n = 0
                    · simp only [h0, if_true]
                    · simp only [h0, if_false, e1 _ h0, e2 _ h0]

theorem T.put_set {α : Type} (t : T α) (n : Nat) (x : α) : t.put n x = t.set n (some x) := by
  induction t generalizing n with
  | nil => rfl
  | node l v r ihl ihr =>
    unfold T.put T.set
    simp only [T.setF]
    by_cases h0 : n = 0
    · simp only [h0, if_true]
    · simp only [h0, if_false, ihl, ihr]
      unfold T.set
      rw [T.setF_mono (n / 2 + 1) n l _ _ (by omega) (by omega), T.setF_mono (n / 2 - 1 + 1) n r _ _ (by omega) (by omega)]

noncomputable def soR (o : SO) (n : R1) (f : List SV → TypeId → Option (Nat × Nat) → Nat × Nat → R1) : R1 :=
  SO.rec (motive := fun _ => R1 → (List SV → TypeId → Option (Nat × Nat) → Nat × Nat → R1) → R1) (fun cs e s z _ f => f cs e s z) (fun _ _ n _ => n) (fun _ _ n _ => n) o n f
noncomputable def optR {α : Type} (o : Option α) (n : R1) (f : α → R1) : R1 := Option.rec (motive := fun _ => R1 → (α → R1) → R1) (fun n _ => n) (fun a _ f => f a) o n f
theorem optR_eq {α : Type} (o : Option α) (n : R1) (f : α → R1) : optR o n f = match o with | some a => f a | none => n := by cases o <;> rfl
noncomputable def objAt (h : Hp) (b : Nat) (n : R1) (f : List SV → TypeId → Option (Nat × Nat) → Nat × Nat → R1) : R1 := optR (T.getR h.t b) n fun o => soR o n f
theorem objAt_eq (h : Hp) (b : Nat) (n : R1) (f : List SV → TypeId → Option (Nat × Nat) → Nat × Nat → R1) : objAt h b n f = match objCells h b with | some (cs, e, s, z) => f cs e s z | none => n := by
  unfold objAt objCells
  rw [optR_eq, T.getR_eq]
  cases h.t.get b with
  | none => rfl
  | some o => cases o <;> rfl

/-! ## lists -/

noncomputable def nthK (l : List SV) (i : Nat) (n : R1) (f : SV → R1) : R1 :=
  List.rec (motive := fun _ => Nat → R1 → (SV → R1) → R1) (fun _ n _ => n) (fun x _ ih i n f => Nat.rec (motive := fun _ => R1) (f x) (fun j _ => ih j n f) i) l i n f
theorem nthK_eq (l : List SV) (i : Nat) (n : R1) (f : SV → R1) : nthK l i n f = match l[i]? with | some v => f v | none => n := by
  induction l generalizing i with
  | nil => rfl
  | cons x l ih => cases i with
    | zero => rfl
    | succ i => rw [List.getElem?_cons_succ]; exact ih i

noncomputable def takeR (m : Nat) (l : List SV) (n : R1) (k : List SV → R1) : R1 :=
  Nat.rec (motive := fun _ => List SV → (List SV → R1) → R1) (fun _ k => k []) (fun _ ih l k => List.rec (motive := fun _ => R1) n (fun x l _ => ih l fun vs => k (x :: vs)) l) m l k
theorem takeR_eq (m : Nat) (l : List SV) (n : R1) (k : List SV → R1) : takeR m l n k = if (l.take m).length = m then k (l.take m) else n := by
  induction m generalizing l k with
  | zero => show k [] = _; simp
  | succ m ih =>
    cases l with
    | nil => simp [takeR]
    | cons x l =>
      show takeR m l n (fun vs => k (x :: vs)) = _
      rw [ih]
      simp only [List.take_succ_cons, List.length_cons, Nat.add_right_cancel_iff]
noncomputable def dropR (o : Nat) (l : List SV) (k : List SV → R1) : R1 :=
  Nat.rec (motive := fun _ => List SV → R1) (fun l => k l) (fun _ ih l => List.rec (motive := fun _ => R1) (k []) (fun _ l _ => ih l) l) o l
theorem dropR_eq (o : Nat) (l : List SV) (k : List SV → R1) : dropR o l k = k (l.drop o) := by
  induction o generalizing l with
  | zero => rfl
  | succ o ih => cases l with
    | nil => rfl
    | cons x l => exact ih l
noncomputable def cutR (l : List SV) (o m : Nat) (n : R1) (k : List SV → R1) : R1 := dropR o l fun l => takeR m l n k
theorem cutR_eq (l : List SV) (o m : Nat) (n : R1) (k : List SV → R1) : cutR l o m n k = match cut l o m with | some vs => k vs | none => n := by
  unfold cutR cut
  rw [dropR_eq, takeR_eq]
  simp only
  split <;> rfl

/-- The first ones taken out for others. -/
noncomputable def overR (vs : List SV) (l : List SV) (n : R1) (k : List SV → R1) : R1 :=
  List.rec (motive := fun _ => List SV → (List SV → R1) → R1) (fun l k => k l) (fun v _ ih l k => List.rec (motive := fun _ => R1) n (fun _ l _ => ih l fun l => k (v :: l)) l) vs l k
theorem overR_eq (vs l : List SV) (n : R1) (k : List SV → R1) : overR vs l n k = if vs.length ≤ l.length then k (vs ++ l.drop vs.length) else n := by
  induction vs generalizing l k with
  | nil => simp [overR]
  | cons v vs ih =>
    cases l with
    | nil => simp [overR]
    | cons x l =>
      show overR vs l n (fun l => k (v :: l)) = _
      rw [ih]
      simp
noncomputable def spliceR (o : Nat) (l vs : List SV) (n : R1) (k : List SV → R1) : R1 :=
  Nat.rec (motive := fun _ => List SV → (List SV → R1) → R1) (fun l k => overR vs l n k) (fun _ ih l k => List.rec (motive := fun _ => R1) n (fun x l _ => ih l fun l => k (x :: l)) l) o l k
theorem spliceR_eq (o : Nat) (l vs : List SV) (n : R1) (k : List SV → R1) : spliceR o l vs n k = match splice l o vs with | some l' => k l' | none => n := by
  induction o generalizing l k with
  | zero =>
    show overR vs l n k = _
    rw [overR_eq]
    unfold splice
    simp only [Nat.zero_add, List.take_zero, List.nil_append]
    split <;> rfl
  | succ o ih =>
    cases l with
    | nil =>
      show n = _
      unfold splice
      rw [if_neg (by simp)]
    | cons x l =>
      show spliceR o l vs n (fun l => k (x :: l)) = _
      rw [ih]
      unfold splice
      by_cases h : o + vs.length ≤ l.length
      · rw [if_pos h, if_pos (by simp only [List.length_cons]; omega)]
        simp only [List.take_succ_cons, List.cons_append, show o + 1 + vs.length = (o + vs.length) + 1 from by omega, List.drop_succ_cons]
      · rw [if_neg h, if_neg (by simp only [List.length_cons]; omega)]

noncomputable def allOneR (l : List SV) (n t : R1) : R1 := List.rec (motive := fun _ => R1) t (fun v _ ih => svOne v n ih) l
theorem allOneR_eq (l : List SV) (n t : R1) : allOneR l n t = if storable l then t else n := by
  induction l with
  | nil => rfl
  | cons v l ih =>
    show svOne v n (allOneR l n t) = _
    rw [svOne_eq, ih]
    have hs : storable (v :: l) = (v.one && storable l) := rfl
    rw [hs]
    cases v.one <;> cases storable l <;> rfl
noncomputable def lenR (l : List SV) (m : Nat) (n t : R1) : R1 :=
  List.rec (motive := fun _ => Nat → R1) (fun m => Nat.rec (motive := fun _ => R1) t (fun _ _ => n) m) (fun _ _ ih m => Nat.rec (motive := fun _ => R1) n (fun j _ => ih j) m) l m
theorem lenR_eq (l : List SV) (m : Nat) (n t : R1) : lenR l m n t = if l.length = m then t else n := by
  induction l generalizing m with
  | nil => cases m with
    | zero => rfl
    | succ m => show n = _; simp
  | cons x l ih => cases m with
    | zero => show n = _; simp
    | succ m =>
      show lenR l m n t = _
      rw [ih]; simp

/-! ## values and pointers -/

noncomputable def pairR (p : Nat × Nat) (f : Nat → Nat → R1) : R1 := Prod.rec (motive := fun _ => (Nat → Nat → R1) → R1) (fun a b f => f a b) p f
noncomputable def svPtr (v : SV) (n : R1) (f : Nat → Nat → R1) : R1 := svPtr0 v n fun a => optR a n fun p => pairR p f
theorem svPtr_eq (v : SV) (n : R1) (f : Nat → Nat → R1) : svPtr v n f = match v with | .ptr (some (b, o)) => f b o | _ => n := by
  unfold svPtr
  rw [svPtr0_eq]
  cases v with
  | ptr a => rcases a with _ | ⟨b, o⟩ <;> rfl
  | _ => rfl
/-- Cells that may be stored: as many as are wanted. -/
noncomputable def cellsR (v : SV) (m : Nat) (n : R1) (k : List SV → R1) : R1 :=
  svAgg v (svOne v n (boolR (Nat.beq m 1) (k [v]) n)) fun l => lenR l m n (allOneR l n (k l))
theorem cellsR_eq (v : SV) (m : Nat) (n : R1) (k : List SV → R1) : cellsR v m n k = if v.told && storable v.cells && (m == v.cells.length) then k v.cells else n := by
  unfold cellsR
  rw [svAgg_eq]
  have hone : ∀ v : SV, v.one = true → v.cells = [v] → svOne v n (boolR (Nat.beq m 1) (k [v]) n) = if v.told && storable v.cells && (m == v.cells.length) then k v.cells else n := by
    intro v h1 h2
    rw [svOne_eq, if_pos h1, h2, boolR_eq]
    have ht : v.told = true := by cases v <;> first | rfl | cases h1
    have hs : storable [v] = true := by simp [storable, h1]
    rw [ht, hs]
    by_cases hm : m = 1
    · subst hm; rfl
    · have e1 : Nat.beq m 1 = false := by cases hb : Nat.beq m 1 with
        | true => exact absurd (Nat.eq_of_beq_eq_true hb) hm
        | false => rfl
      have e2 : (m == [v].length) = false := by simpa using hm
      rw [e1, e2]; rfl
  cases v with
  | agg l =>
    simp only
    rw [lenR_eq, allOneR_eq]
    show _ = if (SV.agg l).told && storable l && (m == l.length) then k l else n
    have ht : (SV.agg l).told = true := rfl
    rw [ht]
    by_cases h1 : l.length = m
    · subst h1; simp
    · rw [if_neg h1, if_neg]; simp; intro _ h; exact h1 h.symm
  | bad => simp only [svOne_eq]; rfl
  | tup l =>
    show svOne _ _ _ = _
    rw [svOne_eq]
    have : storable (SV.tup l).cells = false := by simp [storable, SV.cells, SV.one]
    rw [this]; simp [SV.one]
  | opq i => simp only [svOne_eq]; rfl
  | bool x => exact hone _ rfl rfl
  | int q x => exact hone _ rfl rfl
  | str x => exact hone _ rfl rfl
  | ptr x => exact hone _ rfl rfl
  | sl a b c => exact hone _ rfl rfl
  | map r => exact hone _ rfl rfl
  | func f a b => exact hone _ rfl rfl
  | nilFunc => exact hone _ rfl rfl
  | iface t x => exact hone _ rfl rfl
  | nilIface => exact hone _ rfl rfl

end Go.Sy
