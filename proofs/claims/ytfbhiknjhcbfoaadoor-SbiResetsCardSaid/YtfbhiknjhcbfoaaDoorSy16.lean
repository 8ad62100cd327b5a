/- A symbolic evaluator for the model's programs: regions that draw their order. -/
import Derived.Test.YtfbhiknjhcbfoaaDoorSy15
namespace Go.Sy

mutual
theorem R_down {σ : Vl} {m m' : Md} (hle : m.le m') : ∀ (x : SV) {v0 v : Value}, R σ m x v0 → R σ m' x v → R σ m x v
  | .bad, _, _, _, _ => R_bad _ _ _
  | .bool _, _, _, _, h2 => by unfold R at *; exact h2
  | .int _ _, _, _, _, h2 => by unfold R at *; exact h2
  | .str _, _, _, _, h2 => by unfold R at *; exact h2
  | .ptr none, _, _, _, h2 => by unfold R at *; exact h2
  | .ptr (some _), _, _, h1, h2 => by
    unfold R at *; obtain ⟨B, e1, rfl⟩ := h1; obtain ⟨B', e2, rfl⟩ := h2
    rw [hle.le_ρ e1] at e2; cases e2; exact ⟨B, e1, rfl⟩
  | .sl none n c, _, _, h1, h2 => by
    unfold R at *; obtain ⟨C, e1, rfl⟩ := h1; obtain ⟨C', e2, rfl⟩ := h2
    cases c with
    | exact k => exact ⟨C', e2, rfl⟩
    | unk j => have := (hle.le_κ e1.1).symm.trans e2.1; cases this; exact ⟨C, e1, rfl⟩
  | .sl (some _) n c, _, _, h1, h2 => by
    unfold R at *; obtain ⟨B, C, b1, e1, rfl⟩ := h1; obtain ⟨B', C', b2, e2, rfl⟩ := h2
    rw [hle.le_ρ b1] at b2; cases b2
    cases c with
    | exact k => exact ⟨B, C', b1, e2, rfl⟩
    | unk j => have := (hle.le_κ e1.1).symm.trans e2.1; cases this; exact ⟨B, C, b1, e1, rfl⟩
  | .map none, _, _, _, h2 => by unfold R at *; exact h2
  | .map (some _), _, _, h1, h2 => by
    unfold R at *; obtain ⟨B, e1, rfl⟩ := h1; obtain ⟨B', e2, rfl⟩ := h2
    rw [hle.le_ρ e1] at e2; cases e2; exact ⟨B, e1, rfl⟩
  | .func _ a b, _, _, h1, h2 => by
    unfold R at *
    obtain ⟨va, vb, rfl, k1, k2⟩ := h1
    obtain ⟨va', vb', rfl, k1', k2'⟩ := h2
    exact ⟨va', vb', rfl, RL_down hle a k1 k1', RL_down hle b k2 k2'⟩
  | .nilFunc, _, _, _, h2 => by unfold R at *; exact h2
  | .iface _ x, _, _, h1, h2 => by
    unfold R at *
    obtain ⟨y, rfl, k⟩ := h1
    obtain ⟨y', rfl, k'⟩ := h2
    exact ⟨y', rfl, R_down hle x k k'⟩
  | .nilIface, _, _, _, h2 => by unfold R at *; exact h2
  | .agg cs, _, _, h1, h2 => by
    unfold R at *
    obtain ⟨y, rfl, k⟩ := h1
    obtain ⟨y', rfl, k'⟩ := h2
    exact ⟨y', rfl, RL_down hle cs k k'⟩
  | .tup cs, _, _, h1, h2 => by
    unfold R at *
    obtain ⟨y, rfl, k⟩ := h1
    obtain ⟨y', rfl, k'⟩ := h2
    exact ⟨y', rfl, RL_down hle cs k k'⟩
  | .opq _, _, _, _, h2 => by unfold R at *; exact h2
theorem RL_down {σ : Vl} {m m' : Md} (hle : m.le m') : ∀ (xs : List SV) {vs0 vs : List Value}, RL σ m xs vs0 → RL σ m' xs vs → RL σ m xs vs
  | [], _, _, _, h2 => by rw [RL_nil] at *; exact h2
  | x :: xs, _, _, h1, h2 => by
    rw [RL_cons] at *
    obtain ⟨v, vs, rfl, k1, k2⟩ := h1
    obtain ⟨v', vs', rfl, k1', k2'⟩ := h2
    exact ⟨v', vs', rfl, R_down hle x k1 k1', RL_down hle xs k2 k2'⟩
end

theorem RE_down {σ : Vl} {m m' : Md} (hle : m.le m') : ∀ (es : List (SV × SV × Nat)) {l0 l : List MapEntry}, RE σ m es l0 → RE σ m' es l → RE σ m es l
  | [], _, _, _, h => h
  | (k, v, n) :: es, l0, l, h0, h => by
    unfold RE at *
    obtain ⟨e0, l0', rfl, a1, a2, a3, a4⟩ := h0
    obtain ⟨e, l', rfl, b1, b2, b3, b4⟩ := h
    exact ⟨e, l', rfl, R_down hle k a1 b1, R_down hle v a2 b2, b3, RE_down hle es a4 b4⟩

theorem RO_down {σ : Vl} {m m' : Md} (hle : m.le m') {o : SO} {O0 O : Obj} (h0 : RO σ m o O0) (h : RO σ m' o O) : RO σ m o O := by
  cases o with
  | cells cs el sl fz =>
    obtain ⟨vs0, ex0, F0, rfl, a1, a2, a3⟩ := h0
    obtain ⟨vs, ex, F, rfl, b1, b2, b3⟩ := h
    refine ⟨vs, ex, F, rfl, RL_down hle cs a1 b1, b2, ?_⟩
    unfold slackR at *
    cases sl with
    | none => exact b3
    | some p =>
      obtain ⟨C0, c1, _⟩ := a3
      obtain ⟨C, d1, d2⟩ := b3
      have := (hle.le_κ c1).symm.trans d1
      cases this
      exact ⟨C0, c1, d2⟩
  | map es ck =>
    obtain ⟨l0, rfl, a1⟩ := h0
    obtain ⟨l, rfl, b1⟩ := h
    exact ⟨l, rfl, RE_down hle es a1 b1⟩
  | strIter s p => exact h

/-- What is known of some objects, whatever else there is. -/
structure RWo (σ : Vl) (β : Bs) (m : Md) (t : T SO) (w : World) : Prop where
  obj : ∀ i o, t.get i = some o → ∃ B O, m.ρ[i]? = some B ∧ w.heap[B]? = some O ∧ RO σ m o O ∧ β.Pr B = none
  inj : ∀ i j o o', t.get i = some o → t.get j = some o' → m.ρ[i]? = m.ρ[j]? → i = j
  prot : ∀ b o, β.Pr b = some o → w.heap[b]? = some o
  tape : w.tape = β.tape
  os : w.os = β.os
  out : w.output = β.out
  size : β.n0 ≤ w.heap.size

section
variable {σ : Vl} {β : Bs} {P : Program} {gl : Nat → Option Nat} {m : Md} {h : Hp} {s : St} {a : Act} {w : World}

theorem RWo.up {t : T SO} {m0 : Md} (H : RWo σ β m0 t w) (hle : m0.le m) {h : Hp} (h1 : m.ρ.length = h.nx) (h2 : m.κ.length = h.nk) : RW σ β m { h with t := t } w where
  lenρ := h1
  lenκ := h2
  obj := fun i o hi => by
    obtain ⟨B, O, k1, k2, k3, k4⟩ := H.obj i o hi
    exact ⟨B, O, hle.le_ρ k1, k2, RO_mono hle k3, k4⟩
  inj := fun i j o o' hi hj e => by
    obtain ⟨B, _, k1, _⟩ := H.obj i o hi
    obtain ⟨B', _, k1', _⟩ := H.obj j o' hj
    refine H.inj i j o o' hi hj ?_
    rw [hle.le_ρ k1, hle.le_ρ k1'] at e
    rw [k1, k1', e]
  prot := H.prot
  tape := H.tape
  os := H.os
  out := H.out
  size := H.size

theorem pick1_get {h : Hp} {ids : List Nat} {i : Nat} {o : SO} (hg : (pick1 h ids).get i = some o) : h.t.get i = some o ∧ i ∈ ids := by
  unfold pick1 at hg
  have key : ∀ (ids : List Nat) (t : T SO), (ids.foldl (fun t i => t.set i (h.t.get i)) t).get i = some o → t.get i = some o ∨ (h.t.get i = some o ∧ i ∈ ids) := by
    intro ids
    induction ids with
    | nil => intro t ht; exact .inl ht
    | cons j ids ih =>
      intro t ht
      rw [List.foldl_cons] at ht
      rcases ih _ ht with h1 | ⟨h1, h2⟩
      · rw [T.get_set] at h1
        split at h1
        · rename_i e; subst e; exact .inr ⟨h1, List.mem_cons_self⟩
        · exact .inl h1
      · exact .inr ⟨h1, List.mem_cons_of_mem _ h2⟩
  rcases key ids .nil hg with h1 | h1
  · simp at h1
  · exact h1

/-- What stays: at the region's beginning. -/
theorem stays_start (H : RW σ β m h w) (ids : List Nat) : RWo σ β m (pick1 h ids) w where
  obj := fun i o hi => H.obj i o (pick1_get hi).1
  inj := fun i j o o' hi hj => H.inj i j o o' (pick1_get hi).1 (pick1_get hj).1
  prot := H.prot
  tape := H.tape
  os := H.os
  out := H.out
  size := H.size

/-- What stays: behind an operation that keeps it. -/
theorem stays_kept {m0 : Md} {h0 : Hp} {w0 : World} (H0 : RW σ β m0 h0 w0) (hle : m0.le m) (H : RW σ β m h w) {ids : List Nat} (hk : kept h0 h ids = true) : RWo σ β m0 (pick1 h0 ids) w where
  obj := fun i o hi => by
    obtain ⟨h1, h2⟩ := pick1_get hi
    obtain ⟨B0, O0, k1, _, k3, k4⟩ := H0.obj i o h1
    have hki := List.all_eq_true.1 hk i h2
    rw [h1] at hki
    cases hg : h.t.get i with
    | none => rw [hg] at hki; cases hki
    | some b =>
      rw [hg] at hki
      have := sameO_eq _ _ hki
      subst this
      obtain ⟨B, O, g1, g2, g3, _⟩ := H.obj i o hg
      rw [hle.le_ρ k1] at g1; cases g1
      exact ⟨B0, O, k1, g2, RO_down hle k3 g3, k4⟩
  inj := fun i j o o' hi hj => H0.inj i j o o' (pick1_get hi).1 (pick1_get hj).1
  prot := H.prot
  tape := H.tape
  os := H.os
  out := H.out
  size := H.size

theorem firstSome_some {α γ : Type} {f : α → Option γ} : ∀ {l : List α} {r : γ}, firstSome f l = some r → ∃ a ∈ l, f a = some r
  | [], _, h => by cases h
  | a :: l, r, h => by
    unfold firstSome at h
    split at h
    · rename_i b hb; cases h; exact ⟨a, List.mem_cons_self, hb⟩
    · obtain ⟨x, hx, he⟩ := firstSome_some h; exact ⟨x, List.mem_cons_of_mem _ hx, he⟩

theorem evDraw_sound {ora : Ora} {call : Caller} (hora : OraOK σ β P ora) (hcall : CallOK σ β P gl call) {ops : Array Oper} (hns : Region.noSelect ops = true) {Q : Exit → Act → World → Prop} (hQp : ∀ c a w, ¬ Q (.panic c) a w)
    {m0 : Md} {h0 : Hp} {w0 : World} (H0 : RW σ β m0 h0 w0) {ids : List Nat} : ∀ (n : Nat) (listed : Array Bool) (s : St) (outs : Outs) (m : Md) (a : Act) (w : World),
    evDraw P gl ora call ops h0 ids n listed s = some outs → m0.le m → RS σ β gl m s a w → RWo σ β m0 (pick1 h0 ids) w → NB σ outs →
    (∀ s' m' a' w', (OK.normal, s') ∈ outs → m.le m' → RS σ β gl m' s' a' w' → Q .normal a' w') → wpAnyH P .any ops Q (RWo σ β m0 (pick1 h0 ids)) n listed a w
  | 0, listed, s, outs, m, a, w, he, _, H, _, _, hQ => by
    unfold evDraw at he
    split at he
    · rename_i hr; cases he
      exact ⟨hr, hQ s m a w (List.mem_singleton.2 rfl) m.le_refl H⟩
    · cases he
  | n + 1, listed, s, outs, m, a, w, he, hle, H, hS, hnb, hQ => by
    unfold evDraw at he
    split at he
    · rename_i hr; cases he
      exact wpAnyH_done hr (hQ s m a w (List.mem_singleton.2 rfl) m.le_refl H) _
    · rename_i i0 more hr
      simp only at he
      split at he
      · -- one that leaves memory alone is taken first
        rename_i outs' hq
        cases he
        obtain ⟨i, hi, hqi⟩ := firstSome_some hq
        split at hqi
        · cases hqi
        · rename_i o ho
          split at hqi
          · rename_i hfr
            simp only [Bool.and_eq_true] at hfr
            have hgo : ∀ (s : St) (outs : Outs), (bindO (bindO (evOpO P ora { s.hp with t := pick1 h0 ids } (evOperand gl s.tm) o.op) (quietRr s o.dst)) fun (x : OK × St) => match x.1 with
                | .normal => evDraw P gl ora call ops h0 ids n (listed.setIfInBounds i true) x.2
                | k => some [(k, x.2)]) = some outs → RS σ β gl m s a w → NB σ outs → (∀ s' m' a' w', (OK.normal, s') ∈ outs → m.le m' → RS σ β gl m' s' a' w' → Q .normal a' w') →
                Region.wanted o (yielded ops a.tmps) = true → wpAnyH P .any ops Q (RWo σ β m0 (pick1 h0 ids)) (n + 1) listed a w := by
              intro s outs he H hnb hQ hw
              obtain ⟨l', hl', hall⟩ := bindO_mem he
              obtain ⟨rs, hrs, hall2⟩ := bindO_mem hl'
              have Hs : ∀ w', RWo σ β m0 (pick1 h0 ids) w' → RW σ β m { s.hp with t := pick1 h0 ids } w' := fun w' hw' => hw'.up hle H.hp.lenρ H.hp.lenκ
              obtain ⟨cs, r, h1, h2, h3⟩ := evOpO_quiet (P := P) (σ := σ) (β := β) (m := m) hora (evOperand_R H) hfr.1 hrs
              obtain ⟨x, hx, hsub⟩ := hall2 _ h1
              unfold quietRr at hx
              simp only [appK_eq] at hx
              split at hx
              · rename_i hway
                exact (ways_none hway H.pc h2).elim
              · rename_i cs' hway
                have hcs' := (ways_some hway H.pc).2 h2
                have H1 := H.assume hcs'
                rcases h3 with rfl | ⟨v, rfl, h3⟩
                · simp only at hx
                  cases hx
                  obtain ⟨y, hy, hsub2⟩ := hall _ (hsub _ (List.mem_singleton.2 rfl))
                  cases hy
                  exact (hnb _ (hsub2 _ (List.mem_singleton.2 rfl)) H1.pc).elim
                · simp only at hx
                  split at hx
                  · rename_i hfull
                    have hx : some [(OK.normal, (s.assume cs').put o.dst (v.red (s.assume cs').pc))] = some x := by
                      rw [← hx]
                      exact (putK_eq (s.assume cs') o.dst (v.red (s.assume cs').pc) (fun s => some [(OK.normal, s)])).symm
                    cases hx
                    obtain ⟨y, hy, hsub2⟩ := hall _ (hsub _ (List.mem_singleton.2 rfl))
                    simp only at hy
                    obtain ⟨v', k1, k2⟩ := h3 w (Hs w hS)
                    refine wpAnyH_take ho hns hfr.2 (by rw [hr]; simpa using hi) (fun c a w hp => (hQp _ _ _ hp).elim) (v := v') (.inl ⟨hw, fun w' hw' => ?_⟩) hS ?_
                    · obtain ⟨v2, g1, g2⟩ := h3 w' (Hs w' hw')
                      rw [R_full v hfull k1 g1]; exact g2
                    · exact evDraw_sound hora hcall hns hQp H0 n _ _ y m _ w hy hle (H1.put m.le_refl H1.hp (R_red H1.pc k1) o.dst) hS (fun s2 h2 => hnb s2 (hsub2 _ h2))
                        fun s2 m2 a2 w2 h2 hle2 H2 => hQ s2 m2 a2 w2 (hsub2 _ h2) hle2 H2
                  · cases hx
            have hno : ∀ (s : St) (outs : Outs), evDraw P gl ora call ops h0 ids n (listed.setIfInBounds i true) (s.put o.dst (.tup [])) = some outs → RS σ β gl m s a w → NB σ outs →
                (∀ s' m' a' w', (OK.normal, s') ∈ outs → m.le m' → RS σ β gl m' s' a' w' → Q .normal a' w') →
                Region.wanted o (yielded ops a.tmps) = false → wpAnyH P .any ops Q (RWo σ β m0 (pick1 h0 ids)) (n + 1) listed a w := by
              intro s outs he H hnb hQ hw
              refine wpAnyH_take ho hns hfr.2 (by rw [hr]; simpa using hi) (fun c a w hp => (hQp _ _ _ hp).elim) (v := undef) (.inr ⟨hw, rfl⟩) hS ?_
              exact evDraw_sound hora hcall hns hQp H0 n _ _ outs m _ w he hle (H.putUndef o.dst) hS hnb hQ
            have hwant := want_sound H ops o
            split at hqi
            · rename_i hw
              rw [hw] at hwant
              exact hgo s _ hqi H hnb hQ hwant
            · rename_i hw
              rw [hw] at hwant
              exact hno s _ hqi H hnb hQ hwant
            · rename_i c hw
              rw [hw] at hwant
              simp only at hwant
              split at hqi
              · rename_i hk
                exact hgo s _ hqi H hnb hQ (by rw [hwant, known_sound hk H.pc])
              · rename_i hk
                exact hno s _ hqi H hnb hQ (by rw [hwant, known_sound hk H.pc])
              · split at hqi
                · rename_i x y hx hy
                  cases hqi
                  cases hc : c.B σ with
                  | true =>
                    exact hgo _ x hx (H.assume (by rw [PC.cons]; exact ⟨hc, PC.nil⟩)) (fun s' h' => hnb s' (List.mem_append.2 (.inl h'))) (fun s' m' a' w' h' => hQ s' m' a' w' (List.mem_append.2 (.inl h'))) (by rw [hwant, hc])
                  | false =>
                    exact hno _ y hy (H.assume (by rw [PC.cons]; exact ⟨by rw [not_B, hc]; rfl, PC.nil⟩)) (fun s' h' => hnb s' (List.mem_append.2 (.inr h'))) (fun s' m' a' w' h' => hQ s' m' a' w' (List.mem_append.2 (.inr h'))) (by rw [hwant, hc])
                · cases hqi
            · cases hqi
          · cases hqi
      · -- whichever comes up
        rename_i hq
        obtain ⟨l', hl', hall⟩ := bindO_mem he
        cases hl'
        refine wpAnyH_all hr (by simp) fun i hi => ?_
        obtain ⟨outs1, hlo, hsub⟩ := hall i hi
        have hnb1 : NB σ outs1 := fun s2 h2 => hnb s2 (hsub _ h2)
        have hQ1 : ∀ s' m' a' w', (OK.normal, s') ∈ outs1 → m.le m' → RS σ β gl m' s' a' w' → Q .normal a' w' := fun s2 m2 a2 w2 h2 => hQ s2 m2 a2 w2 (hsub _ h2)
        split at hlo
        · cases hlo
        · rename_i o ho
          unfold wpOp
          rw [ho]
          simp only
          have hgo : ∀ (s : St) (outs : Outs), (bindO (evOper P gl ora call o s) fun (x : OK × St) => match x.1 with
              | .normal => if kept h0 x.2.hp ids then evDraw P gl ora call ops h0 ids n (listed.setIfInBounds i true) x.2 else none
              | k => some [(k, x.2)]) = some outs → RS σ β gl m s a w → NB σ outs → (∀ s' m' a' w', (OK.normal, s') ∈ outs → m.le m' → RS σ β gl m' s' a' w' → Q .normal a' w') →
              o.wp P a w (fun a' w' => RWo σ β m0 (pick1 h0 ids) w' ∧ wpAnyH P .any ops Q (RWo σ β m0 (pick1 h0 ids)) n (listed.setIfInBounds i true) a' w') Q := by
            intro s outs he H hnb hQ
            obtain ⟨l', hl', hall⟩ := bindO_mem he
            refine evOper_sound hora hcall hl' H ?_ ?_
            · intro s' hs' hp
              obtain ⟨x, hx, hsub⟩ := hall _ hs'
              cases hx
              exact hnb s' (hsub _ (List.mem_singleton.2 rfl)) hp
            · intro s' m' a' w' hs' hle' H'
              obtain ⟨x, hx, hsub⟩ := hall _ hs'
              simp only at hx
              split at hx
              · rename_i hk
                have hS' := stays_kept H0 (hle.trans hle') H'.hp hk
                exact ⟨hS', evDraw_sound hora hcall hns hQp H0 n _ s' x m' a' w' hx (hle.trans hle') H' hS' (fun s2 h2 => hnb s2 (hsub _ h2)) fun s2 m2 a2 w2 h2 hle2 H2 => hQ s2 m2 a2 w2 (hsub _ h2) (hle'.trans hle2) H2⟩
              · cases hx
          have hno : ∀ (s : St) (outs : Outs), evDraw P gl ora call ops h0 ids n (listed.setIfInBounds i true) (s.put o.dst (.tup [])) = some outs → RS σ β gl m s a w → NB σ outs →
              (∀ s' m' a' w', (OK.normal, s') ∈ outs → m.le m' → RS σ β gl m' s' a' w' → Q .normal a' w') →
              RWo σ β m0 (pick1 h0 ids) w ∧ wpAnyH P .any ops Q (RWo σ β m0 (pick1 h0 ids)) n (listed.setIfInBounds i true) (a.put o.dst undef) w := by
            intro s outs he H hnb hQ
            exact ⟨hS, evDraw_sound hora hcall hns hQp H0 n _ _ outs m _ w he hle (H.putUndef o.dst) hS hnb hQ⟩
          have hwant := want_sound H ops o
          split at hlo
          · rename_i hw
            rw [hw] at hwant
            rw [if_pos hwant]
            exact .inl (hgo s _ hlo H hnb1 hQ1)
          · rename_i hw
            rw [hw] at hwant
            rw [if_neg (by simp [hwant])]
            exact hno s _ hlo H hnb1 hQ1
          · rename_i c hw
            rw [hw] at hwant
            simp only at hwant
            split at hlo
            · rename_i hk
              rw [if_pos (by rw [hwant, known_sound hk H.pc])]
              exact .inl (hgo s _ hlo H hnb1 hQ1)
            · rename_i hk
              rw [if_neg (by rw [hwant, known_sound hk H.pc]; simp)]
              exact hno s _ hlo H hnb1 hQ1
            · split at hlo
              · rename_i x y hx hy
                cases hlo
                cases hc : c.B σ with
                | true =>
                  rw [if_pos (by rw [hwant, hc])]
                  exact .inl (hgo _ x hx (H.assume (by rw [PC.cons]; exact ⟨hc, PC.nil⟩)) (fun s' h' => hnb1 s' (List.mem_append.2 (.inl h'))) fun s' m' a' w' h' => hQ1 s' m' a' w' (List.mem_append.2 (.inl h')))
                | false =>
                  rw [if_neg (by rw [hwant, hc]; simp)]
                  exact hno _ y hy (H.assume (by rw [PC.cons]; exact ⟨by rw [not_B, hc]; rfl, PC.nil⟩)) (fun s' h' => hnb1 s' (List.mem_append.2 (.inr h'))) fun s' m' a' w' h' => hQ1 s' m' a' w' (List.mem_append.2 (.inr h'))
              · cases hlo
          · cases hlo

end

end Go.Sy
