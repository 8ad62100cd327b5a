/- A symbolic evaluator for the model's programs: code and calls. -/
import Derived.Test.YtfbhiknjhcbfoaaDoorSy18
namespace Go.Sy

section
variable {σ : Vl} {β : Bs} {P : Program} {gl : Nat → Option Nat}

def EvOK (σ : Vl) (β : Bs) (P : Program) (gl : Nat → Option Nat) (ev : Code → St → Option Outs) : Prop :=
  ∀ c s outs m a w, ev c s = some outs → RS σ β gl m s a w → NB σ outs → c.wp P (Post σ β gl m outs) a w

theorem argsT_get : ∀ (l : List SV) (k : Nat) (t : Tm) (i : Nat), (argsT l k t).get i = .bad ∨ (k ≤ i ∧ ∃ v, l[i - k]? = some v ∧ (argsT l k t).get i = v) ∨ (argsT l k t).get i = t.get i
  | [], k, t, i => by unfold argsT; exact .inr (.inr rfl)
  | v :: l, k, t, i => by
    unfold argsT
    rcases argsT_get l (k + 1) (t.put k v) i with h | ⟨h1, v', h2, h3⟩ | h
    · exact .inl h
    · refine .inr (.inl ⟨by omega, v', ?_, h3⟩)
      have h4 : i - k = (i - (k + 1)) + 1 := by omega
      rw [h4, List.getElem?_cons_succ]; exact h2
    · rw [Tm.get_put] at h
      split at h
      · rename_i e; subst e
        split at h
        · exact .inr (.inl ⟨Nat.le_refl _, v, by simp, h⟩)
        · exact .inl h
      · exact .inr (.inr h)

theorem evF_ok {mg : Bool} {hk : Hooks} {ev : Code → St → Option Outs} (hev : EvOK σ β P gl ev) (hhk : CallOK σ β P gl hk) : CallOK σ β P gl (evF P mg hk ev) := by
  intro f args h pc rets he m w vals H hv hp hg hnb
  unfold evF at he
  simp only [fcN_eq] at he
  split at he
  · rename_i r hr
    cases he
    exact hhk f args h pc _ hr m w vals H hv hp hg hnb
  · split at he
    · rename_i fn hfn
      split at he
      · rename_i c hc
        obtain ⟨l, hl, rfl⟩ := Option.map_eq_some_iff.1 he
        obtain ⟨outs, houts, hall⟩ := bindO_mem hl
        have hlen := RL_length hv
        have H0 : RS σ β gl m { tm := argsT args 0 Tm.nil, nt := max fn.ntmps args.length, hp := h, pc := pc }
            { tmps := vals.toArray ++ Array.replicate (fn.ntmps - vals.toArray.size) undef, defers := [] } w := by
          refine ⟨fun t => ?_, ?_, H, hp, rfl, hg⟩
          · rcases argsT_get args 0 Tm.nil t with h | ⟨_, v, hx, h⟩ | h
            · simp only; rw [h]; exact R_bad _ _ _
            · simp only; rw [h]
              rw [Nat.sub_zero] at hx
              obtain ⟨v', h1, h2⟩ := RL_get hv t v hx
              have hlt := (List.getElem?_eq_some_iff.1 h1).1
              have e : (vals.toArray ++ Array.replicate (fn.ntmps - vals.toArray.size) undef).getD t undef = v' := by
                rw [Array.getD_eq_getD_getElem?, Array.getElem?_append_left (by simpa using hlt)]
                simp [h1]
              rw [e]; exact h2
            · simp only; rw [h, Tm.get_nil]; exact R_bad _ _ _
          · simp only [Array.size_append, Array.size_replicate, List.size_toArray, hlen]; omega
        have hcov := mgR_cov (σ := σ) (gl := gl) mg l
        have hnbo : NB σ outs := by
          intro s hs hps
          obtain ⟨x, hx, hsub⟩ := hall _ hs
          cases hx
          exact hnb s.hp s.pc ((hcov _ (hsub _ (List.mem_singleton.2 rfl)) hps).1 rfl) hps
        have hwp := hev c _ outs m _ w houts H0 hnbo
        refine calls_of_wp hfn hc (wp_mono hwp ?_)
        rintro e a' w' ⟨k, s', m', h1, h2, h3, h4⟩
        have key : (∃ v, evResults P fn s' = some v ∧ (some v, s'.hp, s'.pc) ∈ l) → a'.defers = [] ∧ ∃ v, (results fn a'.tmps).run P w' = .ok v w' ∧
            ∃ x h' pc' m' v', ((some x : Option SV), h', pc') ∈ mgR mg l ∧ PC σ pc' ∧ m.le m' ∧ RW σ β m' h' w' ∧ R σ m' x v' ∧ Ending.returned v = .returned v' := by
          rintro ⟨x, hx, hm⟩
          refine ⟨h4.de, ?_⟩
          obtain ⟨v', g1, g2⟩ := evResults_sound (P := P) h4 hx
          obtain ⟨r', m2, k1, k2, y, k3, k4, k5, k6, k7⟩ := (hcov _ hm h4.pc).2 β m' v' w' ⟨x, rfl, h4.hp, g1, h4.pc, h4.gl⟩
          obtain ⟨r1, r2, r3⟩ := r'
          simp only at k3 k4 k6
          subst k3
          exact ⟨v', g2, y, r2, r3, m2, v', k1, k6, h3.trans k2, k4, k5, rfl⟩
        cases e with
        | normal =>
          have := okE_normal h2; subst this
          obtain ⟨x, hx, hsub⟩ := hall _ h1
          simp only [evEnd] at hx
          split at hx
          · cases hx
          · rename_i v hv
            rw [fcV_eq] at hx
            cases hx
            exact key ⟨v, hv, hsub _ (List.mem_singleton.2 rfl)⟩
        | ret =>
          have := okE_ret h2; subst this
          obtain ⟨x, hx, hsub⟩ := hall _ h1
          simp only [evEnd] at hx
          split at hx
          · cases hx
          · rename_i v hv
            rw [fcV_eq] at hx
            cases hx
            exact key ⟨v, hv, hsub _ (List.mem_singleton.2 rfl)⟩
        | exit i =>
          have := okE_exit h2; subst this
          obtain ⟨x, hx, hsub⟩ := hall _ h1
          simp [evEnd] at hx
        | goto i => cases k <;> exact h2.elim
        | panic c => cases k <;> exact h2.elim
        | outgrown => cases k <;> exact h2.elim
      · cases he
    · cases he

def blk (id : Nat) : OK × St → OK × St := fun (k, s') => match k with
  | .exit i => if i = id then (.normal, s') else (.exit i, s')
  | k => (k, s')

/-- **THE WALK**: what the evaluator says of a piece of code holds. -/
theorem evC_sound {C : Cfg} (hora : OraOK σ β C.P C.ora) (hhk : CallOK σ β C.P C.gl C.hk) : ∀ (n : Nat) (c : Code) (s : St) (outs : Outs) (m : Md) (a : Act) (w : World) (Q : Exit → Act → World → Prop),
    evC C n c s = some outs → RS σ β C.gl m s a w → NB σ outs → (∀ e a' w', Post σ β C.gl m outs e a' w' → Q e a' w') → c.wp C.P Q a w ∧ ∀ b, c = .loop b → Code.rounds C.P b Q n a w
  | 0, c, s, outs, m, a, w, Q, he, _, _, _ => by unfold evC at he; cases he
  | n + 1, c, s, outs, m, a, w, Q, he, H, hnb, hQ => by
    have hcall : CallOK σ β C.P C.gl (evF C.P C.mg C.hk (evC C n)) := evF_ok (fun c s outs m a w he H hnb => (evC_sound hora hhk n c s outs m a w _ he H hnb fun _ _ _ h => h).1) hhk
    unfold evC at he
    split at he
    · cases he
      exact ⟨wp_skip (hQ _ _ _ ⟨.normal, s, m, List.mem_singleton.2 rfl, trivial, m.le_refl, H⟩), fun _ e => nomatch e⟩
    · cases he
      exact ⟨wp_label (hQ _ _ _ ⟨.normal, s, m, List.mem_singleton.2 rfl, trivial, m.le_refl, H⟩), fun _ e => nomatch e⟩
    · rename_i id ops draw
      refine ⟨?_, fun _ e => nomatch e⟩
      simp only at he
      split at he
      · rename_i hd
        subst hd
        split at he
        · rename_i hm
          simp only [Bool.and_eq_true] at hm
          obtain ⟨o, ho, rfl⟩ := Option.map_eq_some_iff.1 he
          have hcov := mgO_cov (σ := σ) (gl := C.gl) C.mg o
          refine wp_mono (Q := fun e a' w' => e = .normal ∧ Post σ β C.gl m o e a' w') ?_ fun e a' w' h => hQ _ _ _ (h.2.cov hcov)
          refine wp_region_held (S := RWo σ β m (pick1 s.hp (preReads C.P C.gl C.ora s.hp ops.toList s.tm))) hm.1 ?_
          have H' : RS σ β C.gl m s a { w with drawn := w.drawn + 1 } := H.world rfl rfl rfl rfl
          refine evDraw_sound hora hcall hm.2 (fun c a w h => nomatch h.1) H'.hp ops.size _ s o m a _ ho m.le_refl H' (stays_start H'.hp _) hnb.of_mg ?_
          intro s' m' a' w' hs hle HH
          exact ⟨rfl, .normal, s', m', hs, trivial, hle, HH⟩
        · cases he
      · rename_i hd
        have : draw = false := by simpa using hd
        subst this
        obtain ⟨o, ho, rfl⟩ := Option.map_eq_some_iff.1 he
        have hcov := mgO_cov (σ := σ) (gl := C.gl) C.mg o
        refine wp_mono (Q := Post σ β C.gl m o) ?_ fun e a' w' h => hQ _ _ _ (h.cov hcov)
        refine wp_region_list ?_
        exact evOps_sound hora hcall _ s o m a w ho H hnb.of_mg fun s' m' a' w' hs hle HH => ⟨.normal, s', m', hs, trivial, hle, HH⟩
    · rename_i x y
      refine ⟨?_, fun _ e => nomatch e⟩
      obtain ⟨l, hl, hall⟩ := bindO_mem he
      refine wp_seq ?_
      refine (evC_sound hora hhk n x s l m a w _ hl H ?_ ?_).1
      · intro s' hs hp
        obtain ⟨z, hz, hsub⟩ := hall _ hs
        cases hz
        exact hnb s' (hsub _ (List.mem_singleton.2 rfl)) hp
      · rintro e a' w' ⟨k, s', m', h1, h2, h3, h4⟩
        obtain ⟨z, hz, hsub⟩ := hall _ h1
        cases k with
        | normal =>
          cases e <;> first | exact h2.elim | skip
          exact (evC_sound hora hhk n y s' z m' a' w' Q hz h4 (fun s2 h2 => hnb s2 (hsub _ h2)) fun e a2 w2 h => hQ _ _ _ ((h.sub hsub).lift h3)).1
        | exit i =>
          cases hz
          cases e <;> first | exact h2.elim | skip
          exact hQ _ _ _ ⟨_, s', m', hsub _ (List.mem_singleton.2 rfl), h2, h3, h4⟩
        | ret =>
          cases hz
          cases e <;> first | exact h2.elim | skip
          exact hQ _ _ _ ⟨_, s', m', hsub _ (List.mem_singleton.2 rfl), h2, h3, h4⟩
        | bad => cases e <;> exact h2.elim
    · rename_i c x y
      refine ⟨?_, fun _ e => nomatch e⟩
      have hc := evOperand_R H c
      split at he
      · rename_i t ht
        rw [ht] at hc
        unfold R at hc
        split at he
        · rename_i hk
          rw [known_sound hk H.pc] at hc
          exact wp_cond_true hc (evC_sound hora hhk n x s outs m a w Q he H hnb hQ).1
        · rename_i hk
          rw [known_sound hk H.pc] at hc
          exact wp_cond_false hc (evC_sound hora hhk n y s outs m a w Q he H hnb hQ).1
        · split at he
          · rename_i l r hl hr
            cases he
            have hcov := mgO_cov (σ := σ) (gl := C.gl) C.mg (l ++ r)
            have hnb' := hnb.of_mg
            cases ht : t.B σ with
            | true =>
              rw [ht] at hc
              refine wp_cond_true hc (evC_sound hora hhk n x _ l m a w Q hl (H.assume (by rw [PC.cons]; exact ⟨ht, PC.nil⟩)) (fun s2 h2 => hnb' s2 (List.mem_append.2 (.inl h2))) ?_).1
              exact fun e a' w' h => hQ _ _ _ ((h.sub fun z hz => List.mem_append.2 (.inl hz)).cov hcov)
            | false =>
              rw [ht] at hc
              refine wp_cond_false hc (evC_sound hora hhk n y _ r m a w Q hr (H.assume (by rw [PC.cons]; exact ⟨by rw [not_B, ht]; rfl, PC.nil⟩)) (fun s2 h2 => hnb' s2 (List.mem_append.2 (.inr h2))) ?_).1
              exact fun e a' w' h => hQ _ _ _ ((h.sub fun z hz => List.mem_append.2 (.inr hz)).cov hcov)
          · cases he
      · cases he
    · rename_i id b
      refine ⟨?_, fun _ e => nomatch e⟩
      change (evC C n b s).map (fun l => mgO C.mg (l.map (blk id))) = some outs at he
      obtain ⟨l, hl, rfl⟩ := Option.map_eq_some_iff.1 he
      have hcov := mgO_cov (σ := σ) (gl := C.gl) C.mg (l.map (blk id))
      have hnb' := hnb.of_mg
      refine wp_block ((evC_sound hora hhk n b s l m a w _ hl H ?_ ?_).1)
      · intro s' hs hp
        exact hnb' s' (List.mem_map.2 ⟨(.bad, s'), hs, rfl⟩) hp
      · rintro e a' w' ⟨k, s', m', h1, h2, h3, h4⟩
        have hmem : blk id (k, s') ∈ l.map (blk id) := List.mem_map.2 ⟨(k, s'), h1, rfl⟩
        cases e with
        | normal =>
          have := okE_normal h2; subst this
          exact hQ _ _ _ (Post.cov ⟨_, s', m', hmem, trivial, h3, h4⟩ hcov)
        | ret =>
          have := okE_ret h2; subst this
          exact hQ _ _ _ (Post.cov ⟨_, s', m', hmem, trivial, h3, h4⟩ hcov)
        | exit i =>
          have := okE_exit h2; subst this
          simp only [Exit.inBlock]
          split
          · rename_i hi
            simp only [blk, hi, if_true] at hmem
            exact hQ _ _ _ (Post.cov ⟨_, s', m', hmem, trivial, h3, h4⟩ hcov)
          · rename_i hi
            simp only [blk, hi, if_false] at hmem
            exact hQ _ _ _ (Post.cov ⟨_, s', m', hmem, rfl, h3, h4⟩ hcov)
        | goto i => cases k <;> exact h2.elim
        | panic c => cases k <;> exact h2.elim
        | outgrown => cases k <;> exact h2.elim
    · rename_i b
      obtain ⟨l, hl, hall⟩ := bindO_mem he
      have hr : Code.rounds C.P b Q (n + 1) a w := by
        rw [rounds_succ]
        refine (evC_sound hora hhk n b s l m a w _ hl H ?_ ?_).1
        · intro s' hs hp
          obtain ⟨z, hz, hsub⟩ := hall _ hs
          cases hz
          exact hnb s' (hsub _ (List.mem_singleton.2 rfl)) hp
        · rintro e a' w' ⟨k, s', m', h1, h2, h3, h4⟩
          obtain ⟨z, hz, hsub⟩ := hall _ h1
          cases k with
          | normal =>
            cases e <;> first | exact h2.elim | skip
            exact (evC_sound hora hhk n (.loop b) s' z m' a' w' Q hz h4 (fun s2 h2 => hnb s2 (hsub _ h2)) fun e a2 w2 h => hQ _ _ _ ((h.sub hsub).lift h3)).2 b rfl
          | exit i =>
            cases hz
            cases e <;> first | exact h2.elim | skip
            exact hQ _ _ _ ⟨_, s', m', hsub _ (List.mem_singleton.2 rfl), h2, h3, h4⟩
          | ret =>
            cases hz
            cases e <;> first | exact h2.elim | skip
            exact hQ _ _ _ ⟨_, s', m', hsub _ (List.mem_singleton.2 rfl), h2, h3, h4⟩
          | bad => cases e <;> exact h2.elim
      exact ⟨wp_loop_rounds (n + 1) hr, fun b' e => by cases e; exact hr⟩
    · rename_i id
      cases he
      exact ⟨wp_exit (hQ _ _ _ ⟨.exit id, s, m, List.mem_singleton.2 rfl, rfl, m.le_refl, H⟩), fun _ e => nomatch e⟩
    · cases he
      exact ⟨wp_ret (hQ _ _ _ ⟨.ret, s, m, List.mem_singleton.2 rfl, trivial, m.le_refl, H⟩), fun _ e => nomatch e⟩
    · cases he

end

end Go.Sy
