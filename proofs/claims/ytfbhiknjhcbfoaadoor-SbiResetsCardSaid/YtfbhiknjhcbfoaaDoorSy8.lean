/- A symbolic evaluator for the model's programs: indexes, equality, arithmetic. -/
import Derived.Test.YtfbhiknjhcbfoaaDoorSy7
namespace Go.Sy

section
variable {σ : Vl} {β : Bs} {P : Program} {m : Md} {h : Hp} {w : World}

/-- The ways of an operation that hands back a value and leaves the world as it was: which one is taken does not hang on the world. -/
def VPs (σ : Vl) (β : Bs) (P : Program) (m : Md) (h : Hp) (s : Sem Value) (rs : Rs) : Prop :=
  ∃ cs r, (cs, r) ∈ rs ∧ PC σ cs ∧ (r = .bad ∨ ∃ v, r = .val v h ∧ VP σ β P m h s v)

theorem VPs.bad {s : Sem Value} : VPs σ β P m h s [([], .bad)] := ⟨[], .bad, by simp, PC.nil, .inl rfl⟩
theorem VPs.one {s : Sem Value} {v : SV} (hv : VP σ β P m h s v) : VPs σ β P m h s [([], .val v h)] := ⟨[], _, List.mem_singleton.2 rfl, PC.nil, .inr ⟨v, rfl, hv⟩⟩

theorem lift1_sound {s : Sem Value} {v : Option SV} {rs : Rs} (he : lift1 h v = some rs) (hv : ∀ u, v = some u → VP σ β P m h s u) : VPs σ β P m h s rs := by
  unfold lift1 at he
  obtain ⟨u, hu, rfl⟩ := Option.map_eq_some_iff.1 he
  exact VPs.one (hv u hu)

theorem forks_sound {len : Nat} {x : X} {at_ : Nat → Option Rr} {rs : Rs} (he : forks len x at_ = some rs) (σ : Vl) :
    ∃ cs r, (cs, r) ∈ rs ∧ PC σ cs ∧ (r = .bad ∨ ∃ j : Nat, j < len ∧ x.I σ = j ∧ at_ j = some r) := by
  unfold forks at he
  have key : ∀ (n : Nat) (rs : Rs), forks.go len x at_ n = some rs →
      (∃ cs, (cs, Rr.bad) ∈ rs ∧ PC σ cs) ∨ (0 ≤ x.I σ ∧ x.I σ < len ∧ ((n : Int) ≤ x.I σ ∨ ∃ cs r, ∃ j : Nat, (cs, r) ∈ rs ∧ PC σ cs ∧ j < n ∧ x.I σ = j ∧ at_ j = some r)) := by
    intro n
    induction n with
    | zero =>
      intro rs he
      unfold forks.go at he
      cases he
      by_cases h0 : 0 ≤ x.I σ
      · by_cases h1 : x.I σ < len
        · right; exact ⟨h0, h1, .inl (by simpa using h0)⟩
        · left
          refine ⟨[.not (.cmp .lss x (.lit len))], by simp, ?_⟩
          rw [PC.cons]; refine ⟨?_, PC.nil⟩
          show (!decide (x.I σ < (len : Int))) = true
          rw [decide_eq_false h1]; rfl
      · left
        refine ⟨[.not (.cmp .geq x (.lit 0))], by simp, ?_⟩
        rw [PC.cons]; refine ⟨?_, PC.nil⟩
        show (!decide (x.I σ ≥ 0)) = true
        rw [decide_eq_false h0]; rfl
    | succ n ih =>
      intro rs he
      unfold forks.go at he
      cases ha : at_ n with
      | none => rw [ha] at he; cases he
      | some r =>
        cases hg : forks.go len x at_ n with
        | none => rw [ha, hg] at he; cases he
        | some rs' =>
          rw [ha, hg] at he
          cases he
          rcases ih rs' hg with ⟨cs, h1, h2⟩ | ⟨h0, h1, h2⟩
          · left; exact ⟨cs, by simp [h1], h2⟩
          · right
            refine ⟨h0, h1, ?_⟩
            rcases h2 with h2 | ⟨cs, r', j, k1, k2, k3, k4, k5⟩
            · by_cases e : x.I σ = n
              · right
                refine ⟨[.cmp .eql x (.lit n)], r, n, List.mem_cons_self, ?_, by omega, e, ha⟩
                rw [PC.cons]; refine ⟨?_, PC.nil⟩
                show (x.I σ == (n : Int)) = true
                rw [e]; simp
              · left; omega
            · right; exact ⟨cs, r', j, by simp [k1], k2, by omega, k4, k5⟩
  rcases key len rs he with ⟨cs, h1, h2⟩ | ⟨h0, h1, h2⟩
  · exact ⟨cs, .bad, h1, h2, .inl rfl⟩
  · rcases h2 with h2 | ⟨cs, r, j, k1, k2, k3, k4, k5⟩
    · omega
    · exact ⟨cs, r, k1, k2, .inr ⟨j, k3, k4, k5⟩⟩

theorem atIndex_sound {len : Nat} {x : X} {at_ : Nat → Option Rr} {rs : Rs} (he : atIndex len x at_ = some rs) (σ : Vl) :
    ∃ cs r, (cs, r) ∈ rs ∧ PC σ cs ∧ (r = .bad ∨ ∃ j : Nat, j < len ∧ x.I σ = j ∧ at_ j = some r) := by
  unfold atIndex at he
  split at he
  · rename_i i
    split at he
    · rename_i hi
      obtain ⟨r, hr, rfl⟩ := Option.map_eq_some_iff.1 he
      exact ⟨[], r, by simp, PC.nil, .inr ⟨i.toNat, by omega, by simp [X.I, X.d]; omega, hr⟩⟩
    · cases he
      exact ⟨[], .bad, by simp, PC.nil, .inl rfl⟩
  · split at he
    · exact forks_sound he σ
    · cases he

theorem evIndexAddr_sound {t : TypeId} {x ix : SV} {x' ix' : Value} {rs : Rs} (he : evIndexAddr P h t x ix = some rs) (hx : R σ m x x') (hi : R σ m ix ix') :
    VPs σ β P m h (Instr.indexAt t x' ix') rs := by
  unfold evIndexAddr at he
  split at he
  · rename_i len elem b o k i hu
    unfold R at hx hi
    obtain ⟨B, hB, rfl⟩ := hx
    subst hi
    split at he
    · rename_i size hs
      obtain ⟨cs, r, h1, h2, h3⟩ := atIndex_sound he σ
      refine ⟨cs, r, h1, h2, h3.imp id ?_⟩
      rintro ⟨j, k1, k2, k3⟩
      cases k3
      refine ⟨_, rfl, fun w H => ⟨.pointer (some ⟨B, o + j * size, none⟩), by unfold R; exact ⟨B, hB, rfl⟩, ?_⟩⟩
      have hj : (0 : Int) ≤ (j : Int) ∧ (j : Int) < (len : Int) := ⟨by omega, by omega⟩
      simp only [Instr.indexAt, asIntOf, Sem.run_bind, Sem.run_pure, Result.andThen_ok, run_underlying hu, Instr.sureAddr, k2, Sem.run_ite, if_pos hj, run_sizeOf' hs, addr_add, Int.toNat_natCast]
    · cases he
  · rename_i elem b o len c k i hu
    unfold R at hx hi
    obtain ⟨B, C, hB, _, rfl⟩ := hx
    subst hi
    split at he
    · rename_i size hs
      obtain ⟨cs, r, h1, h2, h3⟩ := atIndex_sound he σ
      refine ⟨cs, r, h1, h2, h3.imp id ?_⟩
      rintro ⟨j, k1, k2, k3⟩
      cases k3
      refine ⟨_, rfl, fun w H => ⟨.pointer (some ⟨B, o + j * size, none⟩), by unfold R; exact ⟨B, hB, rfl⟩, ?_⟩⟩
      have hj : (0 : Int) ≤ (j : Int) ∧ (j : Int) < (len : Int) := ⟨by omega, by omega⟩
      simp only [Instr.indexAt, asIntOf, Sem.run_bind, Sem.run_pure, Result.andThen_ok, run_underlying hu, k2, Sem.run_ite, if_pos hj, run_sizeOf' hs, addr_add, Int.toNat_natCast]
    · cases he
  · cases he; exact VPs.bad
  · cases he

theorem evIndex_sound {t : TypeId} {x ix : SV} {x' ix' : Value} {rs : Rs} (he : evIndex P h t x ix = some rs) (hx : R σ m x x') (hi : R σ m ix ix') :
    VPs σ β P m h (Instr.index t x' ix') rs := by
  unfold evIndex at he
  split at he
  · rename_i len elem cs k i hu
    unfold R at hx hi
    obtain ⟨us, rfl, hr⟩ := hx
    subst hi
    split at he
    · rename_i size hs
      obtain ⟨cs', r, h1, h2, h3⟩ := atIndex_sound he σ
      refine ⟨cs', r, h1, h2, h3.imp id ?_⟩
      rintro ⟨j, k1, k2, k3⟩
      obtain ⟨v, hv, rfl⟩ := Option.map_eq_some_iff.1 k3
      obtain ⟨v', hv', hvr⟩ := run_part hv hr
      refine ⟨_, rfl, fun w H => ⟨_, hvr, ?_⟩⟩
      have hj : (0 : Int) ≤ (j : Int) ∧ (j : Int) < (len : Int) := ⟨by omega, by omega⟩
      simp only [Instr.index, asIntOf, Sem.run_bind, Sem.run_pure, Result.andThen_ok, run_underlying hu, k2, Sem.run_ite, if_pos hj, run_sizeOf' hs, Int.toNat_natCast, hv']
    · cases he
  · rename_i l k i hu
    unfold R at hx hi
    subst hx; subst hi
    obtain ⟨cs', r, h1, h2, h3⟩ := atIndex_sound he σ
    refine ⟨cs', r, h1, h2, h3.imp id ?_⟩
    rintro ⟨j, k1, k2, k3⟩
    obtain ⟨c, hc, rfl⟩ := Option.map_eq_some_iff.1 k3
    refine ⟨_, rfl, fun w H => ⟨.int .u8 c.toNat, by unfold R; simp [X.I, X.d], ?_⟩⟩
    have hlt := (List.getElem?_eq_some_iff.1 hc).1
    have hsz : (⟨(X.S σ (X.sl l)).toArray⟩ : ByteArray)[j]? = some c := by
      rw [ByteArray.getElem?_lt' _ _ (by simpa [X.S, X.d, ByteArray.size] using hlt)]
      have := (List.getElem?_eq_some_iff.1 hc).2
      simp only [X.S, X.d]
      rw [← this]
      rfl
    simp only [Instr.index, asIntOf, Sem.run_bind, Sem.run_pure, Result.andThen_ok, run_underlying hu, k2, Int.toNat_natCast]
    rw [if_pos (by omega), hsz]
    rfl
  · cases he

/-! ## equality -/

def EqR (σ : Vl) (P : Program) (t : TypeId) (x' y' : Value) (c : X) (d : Nat) : Prop := ∀ D, d ≤ D → ∀ w, (Op.equalIn D t x' y').run P w = .ok (c.B σ) w

theorem eqFields_sound {d : Nat} {xs ys : List SV} {us vs : List Value} (hx : RL σ m xs us) (hy : RL σ m ys vs)
    (ih : ∀ {t : TypeId} {x y : SV} {x' y' : Value} {c : X}, eqIn P d t x y = some c → R σ m x x' → R σ m y y' → EqR σ P t x' y' c d) :
    ∀ (fs : List Field) (l : List (TypeId × SV × SV)) (c : X), zipParts P xs ys ((fs.filter fun f => f.name ≠ "_").map fun f => (f.type, f.offset)) = some l → eqAll (eqIn P d) l = some c →
      ∀ D, d ≤ D → ∀ w, (Op.eqFields D us.toArray vs.toArray fs).run P w = .ok (c.B σ) w
  | [], l, c, hz, he, D, _, w => by
    simp only [List.filter_nil, List.map_nil, zipParts] at hz
    cases hz
    simp only [eqAll] at he
    cases he
    simp [Op.eqFields, X.B, X.d]
  | f :: fs, l, c, hz, he, D, hD, w => by
    unfold Op.eqFields
    by_cases hn : f.name = "_"
    · have : ((f :: fs).filter fun f => f.name ≠ "_") = fs.filter fun f => f.name ≠ "_" := by simp [hn]
      rw [this] at hz
      rw [if_neg (by simp [hn])]
      exact eqFields_sound hx hy ih fs l c hz he D hD w
    · have : ((f :: fs).filter fun f => f.name ≠ "_") = f :: fs.filter fun f => f.name ≠ "_" := by simp [hn]
      rw [this, List.map_cons] at hz
      unfold zipParts at hz
      split at hz
      · rename_i x y r hpx hpy hr
        cases hz
        unfold eqAll at he
        split at he
        · rename_i a b ha hb
          cases he
          obtain ⟨x', hx1, hx2⟩ := run_part hpx hx
          obtain ⟨y', hy1, hy2⟩ := run_part hpy hy
          have h1 := ih ha hx2 hy2 D hD w
          have h2 := eqFields_sound hx hy ih fs r b hr hb D hD w
          rw [if_pos hn]
          simp only [Sem.run_bind, hx1, hy1, h1, Result.andThen_ok, Sem.run_ite, Sem.run_pure, h2]
          show _ = Result.ok ((mkIte a b (.tt false)).d σ).b w
          rw [mkIte_d]
          cases hab : a.B σ
          · simp [X.d]
          · simp [X.B]
        · cases he
      · cases hz

/-- The elements of two arrays, one behind the other. -/
def eqElems (D elem n : Nat) (xs ys : Array Value) : List Nat → Sem Bool
  | [] => pure true
  | i :: is => do
    let a ← Go.part elem xs (i * n)
    let b ← Go.part elem ys (i * n)
    let r ← Op.equalIn D elem a b
    if (!r) = true then pure false else eqElems D elem n xs ys is

theorem run_equalIn_array (D : Nat) (t : TypeId) (xs ys : Array Value) (len elem n : Nat) (hu : P.underlying t = some (.array len elem)) (hs : tySize P elem = some n) (w : World) :
    (Op.equalIn (D + 1) t (.agg xs) (.agg ys)).run P w = (eqElems D elem n xs ys (List.range len)).run P w := by
  simp only [Op.equalIn, Sem.run_bind, run_underlying hu, Result.andThen_ok, run_sizeOf' hs]
  rw [Std.Legacy.Range.forIn_eq_forIn_range']
  have e : List.range' 0 ((len - 0 + 1 - 1) / 1) 1 = List.range len := by simp [List.range_eq_range']
  simp only [Std.Legacy.Range.size]
  rw [e]
  generalize List.range len = is
  induction is generalizing w with
  | nil => simp [eqElems]
  | cons i is ih =>
    simp only [List.forIn_cons, eqElems, Sem.run_bind, Sem.run_ite]
    generalize (Go.part elem xs (i * n)).run P w = r1
    cases r1 with
    | ok a w1 =>
      simp only [Result.andThen_ok]
      generalize (Go.part elem ys (i * n)).run P w1 = r2
      cases r2 with
      | ok b w2 =>
        simp only [Result.andThen_ok]
        generalize (Op.equalIn D elem a b).run P w2 = r3
        cases r3 with
        | ok r w3 =>
          cases r
          · simp only [Result.andThen_ok, Bool.not_false, if_true, Sem.run_pure]
          · simp only [Result.andThen_ok, Bool.not_true, Bool.false_eq_true, if_false, Sem.run_pure]
            exact ih w3
        | halt x w3 => simp [Result.andThen]
      | halt x w2 => simp [Result.andThen]
    | halt x w1 => simp [Result.andThen]

theorem eqElems_sound {d : Nat} {xs ys : List SV} {us vs : List Value} {elem n : Nat} (hx : RL σ m xs us) (hy : RL σ m ys vs)
    (ih : ∀ {t : TypeId} {x y : SV} {x' y' : Value} {c : X}, eqIn P d t x y = some c → R σ m x x' → R σ m y y' → EqR σ P t x' y' c d) :
    ∀ (is : List Nat) (l : List (TypeId × SV × SV)) (c : X), zipParts P xs ys (is.map fun i => (elem, i * n)) = some l → eqAll (eqIn P d) l = some c →
      ∀ D, d ≤ D → ∀ w, (eqElems D elem n us.toArray vs.toArray is).run P w = .ok (c.B σ) w
  | [], l, c, hz, he, D, _, w => by
    simp only [List.map_nil, zipParts] at hz
    cases hz
    simp only [eqAll] at he
    cases he
    simp [eqElems, X.B, X.d]
  | i :: is, l, c, hz, he, D, hD, w => by
    unfold eqElems
    rw [List.map_cons] at hz
    unfold zipParts at hz
    split at hz
    · rename_i x y r hpx hpy hr
      cases hz
      unfold eqAll at he
      split at he
      · rename_i a b ha hb
        cases he
        obtain ⟨x', hx1, hx2⟩ := run_part hpx hx
        obtain ⟨y', hy1, hy2⟩ := run_part hpy hy
        have h1 := ih ha hx2 hy2 D hD w
        have h2 := eqElems_sound hx hy ih is r b hr hb D hD w
        simp only [Sem.run_bind, hx1, hy1, h1, Result.andThen_ok, Sem.run_ite, Sem.run_pure, h2]
        show _ = Result.ok ((mkIte a b (.tt false)).d σ).b w
        rw [mkIte_d]
        cases hab : a.B σ
        · simp [X.d]
        · simp [X.B]
      · cases he
    · cases hz

theorem eqIn_sound : ∀ {d : Nat} {t : TypeId} {x y : SV} {x' y' : Value} {c : X}, eqIn P d t x y = some c → R σ m x x' → R σ m y y' → EqR σ P t x' y' c d
  | 0, _, _, _, _, _, _, he, _, _ => by unfold eqIn at he; cases he
  | d + 1, t, x, y, x', y', c, he, hx, hy => by
    intro D hD w
    obtain ⟨D, rfl⟩ : ∃ D', D = D' + 1 := ⟨D - 1, by omega⟩
    unfold eqIn at he
    split at he
    · rename_i a b hu
      unfold R at hx hy; subst hx; subst hy; cases he
      rw [mkBeq_B]
      simp [Op.equalIn, run_underlying hu]
    · rename_i k a k' b hu
      unfold R at hx hy; subst hx; subst hy
      split at he
      · rename_i e; subst e; cases he
        rw [X.B, mkCmp_d]
        simp [Op.equalIn, run_underlying hu, X.d, cmpD]
      · cases he
    · rename_i a b hu
      unfold R at hx hy; subst hx; subst hy; cases he
      rw [mkSeq_B]
      simp only [Op.equalIn, run_underlying hu, Sem.run_bind, Result.andThen_ok, Sem.run_pure, beq_toListBytes, ByteArray.toList_mk]
    · rename_i b hu
      cases he
      unfold R at hx; subst hx
      cases b with
      | none => unfold R at hy; subst hy; simp [Op.equalIn, run_underlying hu, X.B, X.d]
      | some p => unfold R at hy; obtain ⟨B, _, rfl⟩ := hy; simp [Op.equalIn, run_underlying hu, X.B, X.d]
    · rename_i a hne hu
      cases he
      unfold R at hy; subst hy
      cases a with
      | none => exact (hne rfl).elim
      | some p => unfold R at hx; obtain ⟨B, _, rfl⟩ := hx; simp [Op.equalIn, run_underlying hu, X.B, X.d]
    · rename_i hu
      cases he; unfold R at hx hy; subst hx; subst hy
      simp [Op.equalIn, run_underlying hu, X.B, X.d]
    · rename_i hu
      cases he; unfold R at hx hy; subst hx; obtain ⟨_, rfl, _⟩ := hy
      simp [Op.equalIn, run_underlying hu, X.B, X.d]
    · rename_i hu
      cases he; unfold R at hx hy; subst hy; obtain ⟨_, rfl, _⟩ := hx
      simp [Op.equalIn, run_underlying hu, X.B, X.d]
    · rename_i fields xs ys hu
      unfold R at hx hy
      obtain ⟨us, rfl, hx⟩ := hx
      obtain ⟨vs, rfl, hy⟩ := hy
      split at he
      · cases he
      · rename_i hst
        split at he
        · rename_i l hz
          have hf : P.fieldsOf t = fields := by unfold Program.fieldsOf; rw [hu]
          rw [run_equalIn_struct w D t _ _ (by rw [hf, hu]) (by simpa using hst), hf]
          exact eqFields_sound hx hy (fun h1 h2 h3 => eqIn_sound h1 h2 h3) _ l c hz he D (by omega) w
        · cases he
    · rename_i len elem xs ys hu
      unfold R at hx hy
      obtain ⟨us, rfl, hx⟩ := hx
      obtain ⟨vs, rfl, hy⟩ := hy
      split at he
      · rename_i n hs
        split at he
        · rename_i l hz
          rw [run_equalIn_array D t _ _ len elem n hu hs w]
          exact eqElems_sound hx hy (fun h1 h2 h3 => eqIn_sound h1 h2 h3) _ l c hz he D (by omega) w
        · cases he
      · cases he
    · rename_i b n c hu
      cases he
      unfold R at hx; obtain ⟨C, _, rfl⟩ := hx
      cases b with
      | none => unfold R at hy; obtain ⟨C, _, rfl⟩ := hy; simp [Op.equalIn, run_underlying hu, X.B, X.d]
      | some p => unfold R at hy; obtain ⟨B, C, _, _, rfl⟩ := hy; simp [Op.equalIn, run_underlying hu, X.B, X.d]
    · rename_i a n c _ _ hne hu
      cases he
      unfold R at hy; obtain ⟨C, _, rfl⟩ := hy
      cases a with
      | none => exact (hne rfl).elim
      | some p => unfold R at hx; obtain ⟨B, C, _, _, rfl⟩ := hx; simp [Op.equalIn, run_underlying hu, X.B, X.d]
    · rename_i b hu
      cases he
      unfold R at hx; subst hx
      cases b with
      | none => unfold R at hy; subst hy; simp [Op.equalIn, run_underlying hu, X.B, X.d]
      | some p => unfold R at hy; obtain ⟨B, _, rfl⟩ := hy; simp [Op.equalIn, run_underlying hu, X.B, X.d]
    · rename_i a hne hu
      cases he
      unfold R at hy; subst hy
      cases a with
      | none => exact (hne rfl).elim
      | some p => unfold R at hx; obtain ⟨B, _, rfl⟩ := hx; simp [Op.equalIn, run_underlying hu, X.B, X.d]
    · rename_i hu
      cases he; unfold R at hx hy; subst hx; subst hy
      simp [Op.equalIn, run_underlying hu, X.B, X.d]
    · rename_i hu
      cases he; unfold R at hx hy; subst hx; obtain ⟨_, _, rfl, _⟩ := hy
      simp [Op.equalIn, run_underlying hu, X.B, X.d]
    · rename_i hu
      cases he; unfold R at hx hy; subst hy; obtain ⟨_, _, rfl, _⟩ := hx
      simp [Op.equalIn, run_underlying hu, X.B, X.d]
    · cases he

end

end Go.Sy
