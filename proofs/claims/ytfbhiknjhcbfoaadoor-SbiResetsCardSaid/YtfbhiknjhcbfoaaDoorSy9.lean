/- A symbolic evaluator for the model's programs: arithmetic, conversions, slices. -/
import Derived.Test.YtfbhiknjhcbfoaaDoorSy8
namespace Go.Sy

section
variable {σ : Vl} {β : Bs} {P : Program} {m : Md} {h : Hp} {w : World}

theorem eql_gen {x : SV} {x' : Value} (hk : eqKind x = true) (hx : R σ m x x') (t : TypeId) (y' : Value) :
    binOp .eql t x' y' = (do pure (.bool (← Op.equal t x' y'))) ∧ binOp .neq t x' y' = (do pure (.bool (!(← Op.equal t x' y')))) := by
  have h : (match x' with | .int _ _ | .string _ | .float _ _ | .complex _ _ _ => false | _ => true) = true := by
    cases x with
    | bad => cases hk
    | int _ _ => cases hk
    | str _ => cases hk
    | opq _ => cases hk
    | tup _ => cases hk
    | bool _ => unfold R at hx; subst hx; rfl
    | ptr a => cases a with
      | none => unfold R at hx; subst hx; rfl
      | some p => unfold R at hx; obtain ⟨_, _, rfl⟩ := hx; rfl
    | sl a _ _ => cases a with
      | none => unfold R at hx; obtain ⟨_, _, rfl⟩ := hx; rfl
      | some p => unfold R at hx; obtain ⟨_, _, _, _, rfl⟩ := hx; rfl
    | map a => cases a with
      | none => unfold R at hx; subst hx; rfl
      | some p => unfold R at hx; obtain ⟨_, _, rfl⟩ := hx; rfl
    | func _ _ _ => unfold R at hx; obtain ⟨_, _, rfl, _⟩ := hx; rfl
    | nilFunc => unfold R at hx; subst hx; rfl
    | iface _ _ => unfold R at hx; obtain ⟨_, rfl, _⟩ := hx; rfl
    | nilIface => unfold R at hx; subst hx; rfl
    | agg _ => unfold R at hx; obtain ⟨_, rfl, _⟩ := hx; rfl
  cases x' <;> first | (cases y' <;> exact ⟨rfl, rfl⟩) | cases h

theorem eqFree_run {op : BinOp} {t : TypeId} {x y : Operand} {a b : SV} {a' b' : Value} (hf : eqFree P t x y a b = true) (ha : R σ m a a') (hb : R σ m b b') (w : World) :
    (eqGuard op t x y a' b').run P w = .ok () w := by
  unfold eqFree at hf
  split at hf
  · unfold R at ha hb; subst ha; subst hb
    simp only [Bool.or_eq_true] at hf
    rcases hf with hf | hf
    · cases x with
      | const c => rw [eqGuard_nil_constL, Sem.run_pure]
      | _ => cases hf
    · cases y with
      | const c => rw [eqGuard_nil_constR, Sem.run_pure]
      | _ => cases hf
  · unfold R at ha hb; obtain ⟨_, rfl, _⟩ := ha; obtain ⟨_, rfl, _⟩ := hb
    exact run_eqGuard_agg w op t x y _ _ (by simpa using hf)
  · unfold R at ha; subst ha; rw [eqGuard_at_bool, Sem.run_pure]
  · unfold R at ha; subst ha; rw [eqGuard_at_int, Sem.run_pure]
  · unfold R at ha; subst ha; rw [eqGuard_at_string, Sem.run_pure]
  · rename_i p _
    cases p with
    | none => unfold R at ha; subst ha; rw [eqGuard_at_pointer, Sem.run_pure]
    | some p => unfold R at ha; obtain ⟨_, _, rfl⟩ := ha; rw [eqGuard_at_pointer, Sem.run_pure]
  · rename_i p _ _ _ _ _
    cases p with
    | none => unfold R at ha; obtain ⟨_, _, rfl⟩ := ha; rw [eqGuard_at_slice, Sem.run_pure]
    | some p => unfold R at ha; obtain ⟨_, _, _, _, rfl⟩ := ha; rw [eqGuard_at_slice, Sem.run_pure]
  · rename_i p _
    cases p with
    | none => unfold R at ha; subst ha; rw [eqGuard_at_map, Sem.run_pure]
    | some p => unfold R at ha; obtain ⟨_, _, rfl⟩ := ha; rw [eqGuard_at_map, Sem.run_pure]
  · unfold R at ha; subst ha; rw [eqGuard_at_nilFunc, Sem.run_pure]
  · unfold R at hb; subst hb
    cases op <;> cases a' <;> rfl
  · unfold R at ha hb; subst ha; obtain ⟨_, rfl, _⟩ := hb; rw [eqGuard_nil_iface, Sem.run_pure]
  · unfold R at ha hb; subst hb; obtain ⟨_, rfl, _⟩ := ha; rw [eqGuard_at_iface, Sem.run_pure]
  · cases hf

theorem eqGuard_other {op : BinOp} {t : TypeId} {x y : Operand} {k k' : IntKind} {a b : Int} (w : World) : (eqGuard op t x y (.int k a) (.int k' b)).run P w = .ok () w := by simp only [eqGuard_at_int, Sem.run_pure]

/-- What the ways of a binary operation say. -/
def BinR (σ : Vl) (P : Program) (m : Md) (s : Sem Value) (l : List (List X × Option SV)) : Prop :=
  ∃ cs r, (cs, r) ∈ l ∧ PC σ cs ∧ (r = none ∨ ∃ v v', r = some v ∧ R σ m v v' ∧ ∀ w, s.run P w = .ok v' w)

theorem BinR.one {s : Sem Value} {v : SV} {v' : Value} (h1 : R σ m v v') (h2 : ∀ w, s.run P w = .ok v' w) : BinR σ P m s [([], some v)] :=
  ⟨[], _, by simp, PC.nil, .inr ⟨v, v', rfl, h1, h2⟩⟩
theorem BinR.bad {s : Sem Value} : BinR σ P m s [([], none)] := ⟨[], none, by simp, PC.nil, .inl rfl⟩

theorem evBin_sound {op : BinOp} {t : TypeId} {ox oy : Operand} {x y : SV} {x' y' : Value} {l : List (List X × Option SV)} (he : evBin P op t ox oy x y = some l) (hx : R σ m x x') (hy : R σ m y y') :
    BinR σ P m (do eqGuard op t ox oy x' y'; binOp op t x' y') l := by
  unfold evBin at he
  split at he
  -- shl, shr
  iterate 2
    · unfold R at hx hy; subst hx; subst hy
      split at he
      · rename_i n
        split at he
        · cases he; exact BinR.bad
        · rename_i hn
          cases he
          refine BinR.one (v' := .int _ _) (by unfold R; rfl) fun w => ?_
          simp only [Sem.run_bind, eqGuard_other, Result.andThen_ok, binOp, Op.shift]
          rw [if_neg (by simpa [X.I, X.d] using hn)]
          simp only [Sem.run_pure, X.I, mkAr_d, X.d, arD]
      · rename_i b _ _
        cases he
        by_cases hb : b.I σ ≥ 0
        · refine ⟨_, _, List.mem_cons_self, ?_, .inr ⟨_, _, rfl, by unfold R; rfl, fun w => ?_⟩⟩
          · rw [PC.cons]; exact ⟨by show decide (b.I σ ≥ 0) = true; simpa using hb, PC.nil⟩
          · simp only [Sem.run_bind, eqGuard_other, Result.andThen_ok, binOp, Op.shift]
            rw [if_neg (by omega)]
            simp only [Sem.run_pure, X.I, mkAr_d, X.d, arD]
        · refine ⟨_, _, List.mem_cons_of_mem _ List.mem_cons_self, ?_, .inl rfl⟩
          rw [PC.cons]; exact ⟨by show (!decide (b.I σ ≥ 0)) = true; simpa using hb, PC.nil⟩
  -- quo, rem
  iterate 2
    · unfold R at hx hy; subst hx; subst hy
      split at he
      · rename_i hk
        subst hk
        split at he
        · rename_i n
          split at he
          · cases he; exact BinR.bad
          · rename_i hn
            cases he
            refine BinR.one (v' := .int _ _) (by unfold R; rfl) fun w => ?_
            simp only [Sem.run_bind, eqGuard_other, Result.andThen_ok, binOp_quo, binOp_rem, Op.intDiv]
            rw [if_neg (by simpa [X.I, X.d] using hn)]
            simp only [Sem.run_pure, X.I, mkAr_d, X.d, arD]
        · rename_i b _ _
          cases he
          by_cases hb : b.I σ = 0
          · refine ⟨_, _, List.mem_cons_of_mem _ List.mem_cons_self, ?_, .inl rfl⟩
            rw [PC.cons]; exact ⟨by show (b.I σ == 0) = true; simpa using hb, PC.nil⟩
          · refine ⟨_, _, List.mem_cons_self, ?_, .inr ⟨_, _, rfl, by unfold R; rfl, fun w => ?_⟩⟩
            · rw [PC.cons]; exact ⟨by show (!(b.I σ == 0)) = true; simpa using hb, PC.nil⟩
            · simp only [Sem.run_bind, eqGuard_other, Result.andThen_ok, binOp_quo, binOp_rem, Op.intDiv]
              rw [if_neg hb]
              simp only [Sem.run_pure, X.I, mkAr_d, X.d, arD]
      · cases he
  -- + - * & | ^ &^
  iterate 7
    · unfold R at hx hy; subst hx; subst hy
      split at he
      · rename_i hk
        subst hk; cases he
        refine BinR.one (v' := .int _ _) (by unfold R; rfl) fun w => ?_
        simp only [Sem.run_bind, eqGuard_other, Result.andThen_ok, binOp, Op.intArith, Op.intBits, ne_eq, not_true, if_false, Sem.run_pure, X.I, mkAr_d, X.d, arD]
      · cases he
  -- comparisons
  iterate 6
    · unfold R at hx hy; subst hx; subst hy
      split at he
      · rename_i hk
        subst hk; cases he
        refine BinR.one (v' := .bool _) (by unfold R; rfl) fun w => ?_
        simp only [Sem.run_bind, eqGuard_other, Result.andThen_ok, binOp, Op.intCmp, ne_eq, not_true, if_false, Sem.run_pure, X.B, mkCmp_d, X.d, cmpD]
      · cases he
  · unfold R at hx hy; subst hx; subst hy; cases he
    refine BinR.one (v' := .bool _) (by unfold R; rfl) fun w => ?_
    rw [mkSeq_B]
    simp [binOp_string_eql, eqGuard_at_string]
  · unfold R at hx hy; subst hx; subst hy; cases he
    refine BinR.one (v' := .bool _) (by unfold R; rfl) fun w => ?_
    rw [mkNot_B, mkSeq_B]
    simp [binOp_string_neq, eqGuard_at_string]
  · rename_i a b
    unfold R at hx hy; subst hx; subst hy
    split at he
    · rename_i hl
      cases he
      refine BinR.one (v' := .string ⟨(a ++ b).toArray⟩) (by unfold R; rfl) fun w => ?_
      have hsz : ¬ ((((⟨a.toArray⟩ : ByteArray).size + (⟨b.toArray⟩ : ByteArray).size : Nat) : Int) > IntKind.i64.max) := by
        have e1 : (⟨a.toArray⟩ : ByteArray).size = a.length := rfl
        have e2 : (⟨b.toArray⟩ : ByteArray).size = b.length := rfl
        rw [e1, e2, IntKind.max_i64]; omega
      have e : (⟨a.toArray⟩ : ByteArray) ++ (⟨b.toArray⟩ : ByteArray) = ⟨(a ++ b).toArray⟩ := by
        apply ByteArray.ext
        simp
      simp only [Sem.run_bind, binOp_string_add, Op.stringOp, eqGuard_at_string, Sem.run_pure, Result.andThen_ok, X.S, X.d]
      rw [if_neg hsz, e]
      rfl
    · cases he
  · split at he
    · rename_i hf
      simp only [Bool.and_eq_true] at hf
      obtain ⟨c, hc, rfl⟩ := Option.map_eq_some_iff.1 he
      refine BinR.one (v' := .bool (c.B σ)) (by unfold R; rfl) fun w => ?_
      have h1 := eqFree_run (op := .eql) hf.2 hx hy w
      have h2 := eqIn_sound hc hx hy Op.maxDepth (by decide) w
      rw [(eql_gen hf.1 hx t y').1]
      simp only [Sem.run_bind, h1, Result.andThen_ok, Op.equal, h2, Sem.run_pure]
    · cases he
  · split at he
    · rename_i hf
      simp only [Bool.and_eq_true] at hf
      obtain ⟨c, hc, rfl⟩ := Option.map_eq_some_iff.1 he
      refine BinR.one (v' := .bool (!(c.B σ))) (by unfold R; rw [mkNot_B]) fun w => ?_
      have h1 := eqFree_run (op := .neq) hf.2 hx hy w
      have h2 := eqIn_sound hc hx hy Op.maxDepth (by decide) w
      rw [(eql_gen hf.1 hx t y').2]
      simp only [Sem.run_bind, h1, Result.andThen_ok, Op.equal, h2, Sem.run_pure]
    · cases he
  · cases he

end

end Go.Sy
