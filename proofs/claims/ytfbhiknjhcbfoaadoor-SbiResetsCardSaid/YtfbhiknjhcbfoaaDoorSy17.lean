/- A symbolic evaluator for the model's programs: merging, code and calls. -/
import Derived.Test.YtfbhiknjhcbfoaaDoorSy16
namespace Go.Sy

/-! ## merging -/

theorem mrgT_get {c : X} : ∀ (a b : T SO) (i : Nat) (o : SO), (mrgT c a b).get i = some o → ∃ x y, a.get i = some x ∧ b.get i = some y ∧ mrgO c (some x) (some y) = some o
  | .nil, b, i, o, h => by unfold mrgT at h; simp at h
  | .node _ _ _, .nil, i, o, h => by unfold mrgT at h; simp at h
  | .node l v r, .node l' v' r', i, o, h => by
    unfold mrgT at h
    unfold T.get at h ⊢
    split at h
    · rename_i h0
      simp only [h0, if_true]
      cases v <;> cases v' <;> first | (simp [mrgO] at h; done) | exact ⟨_, _, rfl, rfl, h⟩
    · rename_i h0
      simp only [h0, if_false]
      split at h
      · rename_i h1
        simp only [h1, if_true]
        exact mrgT_get l l' _ o h
      · rename_i h1
        simp only [h1, if_false]
        exact mrgT_get r r' _ o h

theorem mrgTm_get (c : X) (a b : Tm) (i : Nat) : (mrgTm c a b).get i = .bad ∨ (mrgTm c a b).get i = mrg c (a.get i) (b.get i) := by
  unfold Tm.get
  split
  · exact .inl rfl
  · right; simp only [mrgTm, N8.sel_zip]

theorem RO_mrg_l {σ : Vl} {m : Md} {c : X} (hc : c.B σ = true) {x y o : SO} {O : Obj} (h : mrgO c (some x) (some y) = some o) (hx : RO σ m x O) : RO σ m o O := by
  unfold mrgO at h
  split at h
  · rename_i e1 e2
    cases e1; cases e2
    split at h
    · rename_i hq
      cases h
      obtain ⟨vs, ex, F, k1, k2, k3, k4⟩ := hx
      exact ⟨vs, ex, F, k1, RL_mrg_l hc _ _ _ hq.2.2.2 k2, k3, k4⟩
    · cases h
  · rename_i e1 e2
    cases e1; cases e2
    split at h
    · cases h; exact hx
    · cases h
  · cases h

theorem RO_mrg_r {σ : Vl} {m : Md} {c : X} (hc : c.B σ = false) {x y o : SO} {O : Obj} (h : mrgO c (some x) (some y) = some o) (hy : RO σ m y O) : RO σ m o O := by
  unfold mrgO at h
  split at h
  · rename_i e1 e2
    cases e1; cases e2
    split at h
    · rename_i hq
      cases h
      obtain ⟨rfl, rfl, rfl, hl⟩ := hq
      obtain ⟨vs, ex, F, k1, k2, k3, k4⟩ := hy
      exact ⟨vs, ex, F, k1, RL_mrg_r hc _ _ _ hl k2, k3, k4⟩
    · cases h
  · rename_i e1 e2
    cases e1; cases e2
    split at h
    · rename_i hq
      cases h
      obtain ⟨rfl, hs⟩ := hq
      have := sameEs_eq _ _ hs
      subst this
      exact hy
    · cases h
  · cases h

def Md.pad (m : Md) (r k : Nat) : Md := ⟨m.ρ ++ List.replicate (r - m.ρ.length) 0, m.κ ++ List.replicate (k - m.κ.length) 0⟩
theorem Md.le_pad (m : Md) (r k : Nat) : m.le (m.pad r k) := ⟨⟨_, rfl⟩, ⟨_, rfl⟩⟩

section
variable {σ : Vl} {β : Bs} {P : Program} {gl : Nat → Option Nat} {m : Md} {w : World}

theorem RW_mrg {c : X} {h h' : Hp} {x : Hp} (hx : x = h ∨ x = h') (hc : (x = h ∧ c.B σ = true) ∨ (x = h' ∧ c.B σ = false)) (H : RW σ β m x w) :
    RW σ β (m.pad (max h.nx h'.nx) (max h.nk h'.nk)) (mrgHp c h h') w where
  lenρ := by
    have := H.lenρ
    simp only [Md.pad, mrgHp, List.length_append, List.length_replicate]
    rcases hx with rfl | rfl <;> omega
  lenκ := by
    have := H.lenκ
    simp only [Md.pad, mrgHp, List.length_append, List.length_replicate]
    rcases hx with rfl | rfl <;> omega
  obj := fun i o hi => by
    obtain ⟨a, b, h1, h2, h3⟩ := mrgT_get _ _ _ _ hi
    rcases hc with ⟨rfl, hc⟩ | ⟨rfl, hc⟩
    · obtain ⟨B, O, k1, k2, k3, k4⟩ := H.obj i a h1
      exact ⟨B, O, (m.le_pad _ _).le_ρ k1, k2, RO_mono (m.le_pad _ _) (RO_mrg_l hc h3 k3), k4⟩
    · obtain ⟨B, O, k1, k2, k3, k4⟩ := H.obj i b h2
      exact ⟨B, O, (m.le_pad _ _).le_ρ k1, k2, RO_mono (m.le_pad _ _) (RO_mrg_r hc h3 k3), k4⟩
  inj := fun i j o o' hi hj e => by
    obtain ⟨a, b, h1, h2, _⟩ := mrgT_get _ _ _ _ hi
    obtain ⟨a', b', h1', h2', _⟩ := mrgT_get _ _ _ _ hj
    rcases hc with ⟨rfl, hc⟩ | ⟨rfl, hc⟩
    · obtain ⟨B, O, k1, _⟩ := H.obj i a h1
      obtain ⟨B', O', k1', _⟩ := H.obj j a' h1'
      refine H.inj i j a a' h1 h1' ?_
      rw [(m.le_pad _ _).le_ρ k1, (m.le_pad _ _).le_ρ k1'] at e
      rw [k1, k1', e]
    · obtain ⟨B, O, k1, _⟩ := H.obj i b h2
      obtain ⟨B', O', k1', _⟩ := H.obj j b' h2'
      refine H.inj i j b b' h2 h2' ?_
      rw [(m.le_pad _ _).le_ρ k1, (m.le_pad _ _).le_ρ k1'] at e
      rw [k1, k1', e]
  prot := H.prot
  tape := H.tape
  os := H.os
  out := H.out
  size := H.size

theorem mrgOut_spec {a b o : OK × St} (h : mrgOut a b = some o) : ∃ c p, a.2.pc = c :: p ∧ b.2.pc = .not c :: p ∧ a.1 = b.1 ∧ a.1 ≠ .bad ∧ a.2.nt = b.2.nt ∧
    o = (a.1, { tm := mrgTm c a.2.tm b.2.tm, nt := a.2.nt, hp := mrgHp c a.2.hp b.2.hp, pc := p }) := by
  unfold mrgOut at h
  split at h
  · rename_i c p c' p' h1 h2
    split at h
    · rename_i hq
      obtain ⟨q1, q2, rfl, q4, rfl⟩ := hq
      cases h
      exact ⟨c, p, h1, h2, q1, q2, q4, rfl⟩
    · cases h
  · cases h

/-- The outcomes of the one lie among those of the other. -/
def Cov (σ : Vl) (gl : Nat → Option Nat) (l l' : Outs) : Prop :=
  ∀ k s, (k, s) ∈ l → PC σ s.pc → (k = .bad → (OK.bad, s) ∈ l') ∧ ∀ β m a w, RS σ β gl m s a w → ∃ s' m', (k, s') ∈ l' ∧ m.le m' ∧ RS σ β gl m' s' a w

theorem Cov.refl (l : Outs) : Cov σ gl l l := fun _ s hs _ => ⟨fun e => e ▸ hs, fun _ m _ _ H => ⟨s, m, hs, m.le_refl, H⟩⟩
theorem Cov.trans {l l' l'' : Outs} (h : Cov σ gl l l') (h' : Cov σ gl l' l'') : Cov σ gl l l'' := fun k s hs hp =>
  ⟨fun e => by
    subst e
    exact (h' .bad s ((h .bad s hs hp).1 rfl) hp).1 rfl, fun β m a w H => by
    obtain ⟨s', m', h1, h2, h3⟩ := (h k s hs hp).2 β m a w H
    obtain ⟨s2, m2, g1, g2, g3⟩ := (h' k s' h1 h3.pc).2 β m' a w h3
    exact ⟨s2, m2, g1, h2.trans g2, g3⟩⟩
theorem Cov.cons {l l' : Outs} (o : OK × St) (h : Cov σ gl l l') : Cov σ gl (o :: l) (o :: l') := fun k s hs hp => by
  rcases List.mem_cons.1 hs with e | hs
  · subst e
    exact ⟨fun e => e ▸ List.mem_cons_self, fun _ m _ _ H => ⟨s, m, List.mem_cons_self, m.le_refl, H⟩⟩
  · obtain ⟨h1, h2⟩ := h k s hs hp
    exact ⟨fun e => List.mem_cons_of_mem _ (h1 e), fun β m a w H => by
      obtain ⟨s', m', g1, g2, g3⟩ := h2 β m a w H
      exact ⟨s', m', List.mem_cons_of_mem _ g1, g2, g3⟩⟩

theorem mrgOut_cov {x y o : OK × St} (h : mrgOut x y = some o) (l : Outs) : Cov σ gl (x :: y :: l) (o :: l) := by
  obtain ⟨c, p, h1, h2, h3, h4, h5, rfl⟩ := mrgOut_spec h
  intro k s hs hp
  rcases List.mem_cons.1 hs with e | hs
  · subst e
    rw [h1, PC.cons] at hp
    refine ⟨fun e => absurd e h4, fun β m a w H => ?_⟩
    exact ⟨_, m.pad (max s.hp.nx y.2.hp.nx) (max s.hp.nk y.2.hp.nk), List.mem_cons_self, m.le_pad _ _,
      (fun t => by
        rcases mrgTm_get c s.tm y.2.tm t with e | e
        · simp only; rw [e]; exact R_bad _ _ _
        · simp only; rw [e]; exact R_mono (m.le_pad _ _) _ _ (R_mrg_l hp.1 _ _ _ (H.tm t))), H.nt, RW_mrg (.inl rfl) (.inl ⟨rfl, hp.1⟩) H.hp, hp.2, H.de, H.gl.mono (m.le_pad _ _)⟩
  · rcases List.mem_cons.1 hs with e | hs
    · subst e
      rw [h2, PC.cons, not_B] at hp
      simp only at h3
      subst h3
      have hc : c.B σ = false := by simpa using hp.1
      refine ⟨fun e => absurd e h4, fun β m a w H => ?_⟩
      exact ⟨_, m.pad (max x.2.hp.nx s.hp.nx) (max x.2.hp.nk s.hp.nk), List.mem_cons_self, m.le_pad _ _,
        (fun t => by
        rcases mrgTm_get c x.2.tm s.tm t with e | e
        · simp only; rw [e]; exact R_bad _ _ _
        · simp only; rw [e]; exact R_mono (m.le_pad _ _) _ _ (R_mrg_r hc _ _ _ (H.tm t))), H.nt.trans h5.symm, RW_mrg (.inr rfl) (.inr ⟨rfl, hc⟩) H.hp, hp.2, H.de, H.gl.mono (m.le_pad _ _)⟩
    · exact (Cov.refl _) k s (List.mem_cons_of_mem _ hs) hp

theorem pushOut_cov : ∀ (l : Outs) (o : OK × St), Cov σ gl (o :: l) (pushOut o l)
  | [], o => Cov.refl _
  | x :: rest, o => by
    unfold pushOut
    split
    · rename_i m hm
      rw [fcS_eq]
      exact (mrgOut_cov hm rest).trans (pushOut_cov rest m)
    · exact Cov.refl _

theorem mrgOuts_cov : ∀ (l : Outs), Cov σ gl l (mrgOuts l)
  | [] => Cov.refl _
  | o :: l => by
    show Cov σ gl (o :: l) (pushOut o (mrgOuts l))
    exact (Cov.cons o (mrgOuts_cov l)).trans (pushOut_cov _ _)

theorem mgO_cov (b : Bool) (l : Outs) : Cov σ gl l (mgO b l) := by
  unfold mgO; split
  · exact mrgOuts_cov l
  · exact Cov.refl l

theorem NB.of_mg {b : Bool} {l : Outs} (h : NB σ (mgO b l)) : NB σ l := fun s hs hp => h s (((mgO_cov (σ := σ) (gl := fun _ => none) b l) _ s hs hp).1 rfl) hp

theorem NB.of_mrg {l : Outs} (h : NB σ (mrgOuts l)) : NB σ l := fun s hs hp => h s (((mrgOuts_cov (σ := σ) (gl := fun _ => none) l) _ s hs hp).1 rfl) hp

/-! ### what calls bring -/

/-- A value came back. -/
def RV (σ : Vl) (β : Bs) (gl : Nat → Option Nat) (m : Md) (r : Ret) (v : Value) (w : World) : Prop :=
  ∃ x, r.1 = some x ∧ RW σ β m r.2.1 w ∧ R σ m x v ∧ PC σ r.2.2 ∧ GL gl m

def CovR (σ : Vl) (gl : Nat → Option Nat) (l l' : List Ret) : Prop :=
  ∀ r, r ∈ l → PC σ r.2.2 → (r.1 = none → r ∈ l') ∧ ∀ β m v w, RV σ β gl m r v w → ∃ r' m', r' ∈ l' ∧ m.le m' ∧ RV σ β gl m' r' v w

theorem CovR.refl (l : List Ret) : CovR σ gl l l := fun r hs _ => ⟨fun _ => hs, fun _ m _ _ H => ⟨r, m, hs, m.le_refl, H⟩⟩
theorem CovR.trans {l l' l'' : List Ret} (h : CovR σ gl l l') (h' : CovR σ gl l' l'') : CovR σ gl l l'' := fun r hs hp =>
  ⟨fun e => (h' r ((h r hs hp).1 e) hp).1 e, fun β m v w H => by
    obtain ⟨r', m', h1, h2, h3⟩ := (h r hs hp).2 β m v w H
    obtain ⟨r2, m2, g1, g2, g3⟩ := (h' r' h1 h3.choose_spec.2.2.2.1).2 β m' v w h3
    exact ⟨r2, m2, g1, h2.trans g2, g3⟩⟩
theorem CovR.cons {l l' : List Ret} (o : Ret) (h : CovR σ gl l l') : CovR σ gl (o :: l) (o :: l') := fun r hs hp => by
  rcases List.mem_cons.1 hs with e | hs
  · subst e
    exact ⟨fun _ => List.mem_cons_self, fun _ m _ _ H => ⟨r, m, List.mem_cons_self, m.le_refl, H⟩⟩
  · obtain ⟨h1, h2⟩ := h r hs hp
    exact ⟨fun e => List.mem_cons_of_mem _ (h1 e), fun β m a w H => by
      obtain ⟨s', m', g1, g2, g3⟩ := h2 β m a w H
      exact ⟨s', m', List.mem_cons_of_mem _ g1, g2, g3⟩⟩

theorem mrgRet_cov {x y o : Ret} (h : mrgRet x y = some o) (l : List Ret) : CovR σ gl (x :: y :: l) (o :: l) := by
  unfold mrgRet at h
  split at h
  · rename_i v hh c p v' hh' c' p'
    split at h
    · rename_i hq
      obtain ⟨rfl, rfl⟩ := hq
      cases h
      intro r hs hp
      rcases List.mem_cons.1 hs with e | hs
      · subst e
        rw [PC.cons] at hp
        refine ⟨(fun e => nomatch e), fun β m a w H => ?_⟩
        obtain ⟨x, e, H1, H2, H3, H4⟩ := H
        cases e
        exact ⟨_, m.pad (max hh.nx hh'.nx) (max hh.nk hh'.nk), List.mem_cons_self, m.le_pad _ _, _, rfl, RW_mrg (.inl rfl) (.inl ⟨rfl, hp.1⟩) H1, R_mono (m.le_pad _ _) _ _ (R_mrg_l hp.1 _ _ _ H2), hp.2, H4.mono (m.le_pad _ _)⟩
      · rcases List.mem_cons.1 hs with e | hs
        · subst e
          rw [PC.cons, not_B] at hp
          have hc : c.B σ = false := by simpa using hp.1
          refine ⟨(fun e => nomatch e), fun β m a w H => ?_⟩
          obtain ⟨x, e, H1, H2, H3, H4⟩ := H
          cases e
          exact ⟨_, m.pad (max hh.nx hh'.nx) (max hh.nk hh'.nk), List.mem_cons_self, m.le_pad _ _, _, rfl, RW_mrg (.inr rfl) (.inr ⟨rfl, hc⟩) H1, R_mono (m.le_pad _ _) _ _ (R_mrg_r hc _ _ _ H2), hp.2, H4.mono (m.le_pad _ _)⟩
        · exact (CovR.refl _) r (List.mem_cons_of_mem _ hs) hp
    · cases h
  · cases h

theorem pushRet_cov : ∀ (l : List Ret) (o : Ret), CovR σ gl (o :: l) (pushRet o l)
  | [], o => CovR.refl _
  | x :: rest, o => by
    unfold pushRet
    split
    · rename_i m hm
      rw [fcR_eq]
      exact (mrgRet_cov hm rest).trans (pushRet_cov rest m)
    · exact CovR.refl _

theorem mrgRets_cov : ∀ (l : List Ret), CovR σ gl l (mrgRets l)
  | [] => CovR.refl _
  | o :: l => by
    show CovR σ gl (o :: l) (pushRet o (mrgRets l))
    exact (CovR.cons o (mrgRets_cov l)).trans (pushRet_cov _ _)

theorem mgR_cov (b : Bool) (l : List Ret) : CovR σ gl l (mgR b l) := by
  unfold mgR; split
  · exact mrgRets_cov l
  · exact CovR.refl l

end

end Go.Sy
