/- A symbolic evaluator for the model's programs: operations in a row. -/
import Derived.Test.YtfbhiknjhcbfoaaDoorSy14
namespace Go.Sy

mutual
theorem R_full {σ : Vl} {m : Md} : ∀ (x : SV) {v v' : Value}, SV.full x = true → R σ m x v → R σ m x v' → v = v'
  | .bad, _, _, h, _, _ => by unfold SV.full at h; cases h
  | .bool _, _, _, _, h1, h2 => by unfold R at h1 h2; rw [h1, h2]
  | .int _ _, _, _, _, h1, h2 => by unfold R at h1 h2; rw [h1, h2]
  | .str _, _, _, _, h1, h2 => by unfold R at h1 h2; rw [h1, h2]
  | .ptr none, _, _, _, h1, h2 => by unfold R at h1 h2; rw [h1, h2]
  | .ptr (some _), _, _, _, h1, h2 => by
    unfold R at h1 h2; obtain ⟨B, e1, rfl⟩ := h1; obtain ⟨B', e2, rfl⟩ := h2
    rw [e1] at e2; cases e2; rfl
  | .sl none n c, _, _, _, h1, h2 => by
    unfold R at h1 h2; obtain ⟨C, e1, rfl⟩ := h1; obtain ⟨C', e2, rfl⟩ := h2
    cases c with
    | exact k => rw [e1, e2]
    | unk j => have := e1.1.symm.trans e2.1; cases this; rfl
  | .sl (some _) n c, _, _, _, h1, h2 => by
    unfold R at h1 h2; obtain ⟨B, C, b1, e1, rfl⟩ := h1; obtain ⟨B', C', b2, e2, rfl⟩ := h2
    rw [b1] at b2; cases b2
    cases c with
    | exact k => rw [e1, e2]
    | unk j => have := e1.1.symm.trans e2.1; cases this; rfl
  | .map none, _, _, _, h1, h2 => by unfold R at h1 h2; rw [h1, h2]
  | .map (some _), _, _, _, h1, h2 => by
    unfold R at h1 h2; obtain ⟨B, e1, rfl⟩ := h1; obtain ⟨B', e2, rfl⟩ := h2
    rw [e1] at e2; cases e2; rfl
  | .func _ a b, _, _, h, h1, h2 => by
    unfold SV.full at h; simp only [Bool.and_eq_true] at h
    unfold R at h1 h2
    obtain ⟨va, vb, rfl, k1, k2⟩ := h1
    obtain ⟨va', vb', rfl, k1', k2'⟩ := h2
    rw [RL_full a h.1 k1 k1', RL_full b h.2 k2 k2']
  | .nilFunc, _, _, _, h1, h2 => by unfold R at h1 h2; rw [h1, h2]
  | .iface _ x, _, _, h, h1, h2 => by
    unfold SV.full at h
    unfold R at h1 h2
    obtain ⟨y, rfl, k⟩ := h1
    obtain ⟨y', rfl, k'⟩ := h2
    rw [R_full x h k k']
  | .nilIface, _, _, _, h1, h2 => by unfold R at h1 h2; rw [h1, h2]
  | .agg cs, _, _, h, h1, h2 => by
    unfold SV.full at h
    unfold R at h1 h2
    obtain ⟨y, rfl, k⟩ := h1
    obtain ⟨y', rfl, k'⟩ := h2
    rw [RL_full cs h k k']
  | .tup cs, _, _, h, h1, h2 => by
    unfold SV.full at h
    unfold R at h1 h2
    obtain ⟨y, rfl, k⟩ := h1
    obtain ⟨y', rfl, k'⟩ := h2
    rw [RL_full cs h k k']
  | .opq _, _, _, _, h1, h2 => by unfold R at h1 h2; rw [h1, h2]
theorem RL_full {σ : Vl} {m : Md} : ∀ (xs : List SV) {vs vs' : List Value}, SV.fullL xs = true → RL σ m xs vs → RL σ m xs vs' → vs = vs'
  | [], _, _, _, h1, h2 => by rw [RL_nil] at h1 h2; rw [h1, h2]
  | x :: xs, _, _, h, h1, h2 => by
    unfold SV.fullL at h; simp only [Bool.and_eq_true] at h
    rw [RL_cons] at h1 h2
    obtain ⟨v, vs, rfl, k1, k2⟩ := h1
    obtain ⟨v', vs', rfl, k1', k2'⟩ := h2
    rw [R_full x h.1 k1 k1', RL_full xs h.2 k2 k2']
end

/-! ## states -/

def GL (gl : Nat → Option Nat) (m : Md) : Prop := ∀ g i, gl g = some i → m.ρ[i]? = some g
theorem GL.mono {gl : Nat → Option Nat} {m m' : Md} (h : GL gl m) (hle : m.le m') : GL gl m' := fun g i e => hle.le_ρ (h g i e)

structure RS (σ : Vl) (β : Bs) (gl : Nat → Option Nat) (m : Md) (s : St) (a : Act) (w : World) : Prop where
  tm : ∀ t, R σ m (s.tm.get t) (a.tmps.getD t undef)
  nt : a.tmps.size = s.nt
  hp : RW σ β m s.hp w
  pc : PC σ s.pc
  de : a.defers = []
  gl : GL gl m

section
variable {σ : Vl} {β : Bs} {P : Program} {gl : Nat → Option Nat} {m : Md} {s : St} {a : Act} {w : World}

theorem slot_R (H : RS σ β gl m s a w) (t : Tmp) : R σ m (slot s.tm t) (a.tmps.getD t undef) := by
  exact H.tm t

theorem evOperand_R (H : RS σ β gl m s a w) (x : Operand) : R σ m (evOperand gl s.tm x) (a.eval x) := by
  cases x with
  | tmp t =>
    simp only [evOperand, Act.eval]
    exact slot_R H t
  | const v => exact R_ofV σ m v
  | global g =>
    simp only [evOperand, Act.eval]
    split
    · rename_i i hi; unfold R; exact ⟨g, H.gl g i hi, rfl⟩
    · exact R_bad _ _ _
  | func f =>
    simp only [evOperand, Act.eval]
    unfold R; exact ⟨[], [], rfl, RL_nil.2 rfl, RL_nil.2 rfl⟩

theorem RS.put (H : RS σ β gl m s a w) {m' : Md} {h' : Hp} {w' : World} {v : SV} {v' : Value} (hle : m.le m') (H' : RW σ β m' h' w') (hv : R σ m' v v') (d : Option Tmp) :
    RS σ β gl m' ({ s with hp := h' }.put d v) (a.put d v') w' := by
  cases d with
  | none => exact ⟨fun t => R_mono hle _ _ (H.tm t), H.nt, H', H.pc, H.de, H.gl.mono hle⟩
  | some t =>
    have hnt := H.nt
    by_cases hb : Nat.ble (Nat.succ t) s.nt = true
    · have hlt : t < a.tmps.size := by rw [hnt]; exact Nat.le_of_ble_eq_true hb
      have e : ({ s with hp := h' }.put (some t) v : St) = { s with hp := h', tm := s.tm.put t v } := by simp only [St.put, hb]
      rw [e]
      refine ⟨fun i => ?_, by simp [Act.put, hnt], H', H.pc, H.de, H.gl.mono hle⟩
      show R σ m' ((s.tm.put t v).get i) ((a.tmps.setIfInBounds t v').getD i undef)
      rw [Tm.get_put]
      split
      · rename_i e; subst e
        split
        · simpa [Array.getD_eq_getD_getElem?, Array.getElem?_setIfInBounds, hlt] using hv
        · exact R_bad _ _ _
      · rename_i hne
        have h1 := R_mono hle _ _ (H.tm i)
        have h2 : t ≠ i := fun e => hne e.symm
        simpa [Array.getD_eq_getD_getElem?, Array.getElem?_setIfInBounds, h2] using h1
    · have hb' : Nat.ble (Nat.succ t) s.nt = false := by
        cases h : Nat.ble (Nat.succ t) s.nt with
        | true => exact absurd h hb
        | false => rfl
      have hge : a.tmps.size ≤ t := by
        rw [hnt]
        by_cases hh : s.nt ≤ t
        · exact hh
        · exact absurd (Nat.ble_eq_true_of_le (by omega : Nat.succ t ≤ s.nt)) hb
      have e : ({ s with hp := h' }.put (some t) v : St) = { s with hp := h' } := by simp only [St.put, hb']
      have e2 : a.put (some t) v' = a := by simp [Act.put, Array.setIfInBounds, Nat.not_lt.2 hge]
      rw [e, e2]
      exact ⟨fun t => R_mono hle _ _ (H.tm t), H.nt, H', H.pc, H.de, H.gl.mono hle⟩

theorem RS.assume (H : RS σ β gl m s a w) {cs : List X} (hc : PC σ cs) : RS σ β gl m (s.assume cs) a w :=
  ⟨H.tm, H.nt, H.hp, PC.append.2 ⟨hc, H.pc⟩, H.de, H.gl⟩

theorem RS.putUndef (H : RS σ β gl m s a w) (d : Option Tmp) : RS σ β gl m (s.put d (.tup [])) (a.put d undef) w :=
  H.put m.le_refl H.hp (by unfold R; exact ⟨[], rfl, RL_nil.2 rfl⟩) d

theorem bindO_mem {α γ : Type} {l : Option (List α)} {f : α → Option (List γ)} {r : List γ} (h : bindO l f = some r) : ∃ l', l = some l' ∧ ∀ a ∈ l', ∃ x, f a = some x ∧ ∀ y ∈ x, y ∈ r := by
  unfold bindO at h
  split at h
  · cases h
  · rename_i l'
    refine ⟨l', rfl, ?_⟩
    induction l' generalizing r with
    | nil => intro a ha; cases ha
    | cons b l' ih =>
      simp only [List.foldr_cons] at h
      split at h
      · rename_i x y hx hy
        cases h
        intro a ha
        rcases List.mem_cons.1 ha with rfl | ha
        · exact ⟨x, hx, fun z hz => List.mem_append.2 (.inl hz)⟩
        · obtain ⟨x', h1, h2⟩ := ih hy a ha
          exact ⟨x', h1, fun z hz => List.mem_append.2 (.inr (h2 z hz))⟩
      · cases h

/-- No bad end lies on the way that is taken. -/
def NB (σ : Vl) (outs : Outs) : Prop := ∀ s, (OK.bad, s) ∈ outs → ¬ PC σ s.pc

/-- What the oracle says is so. -/
def OraOK (σ : Vl) (β : Bs) (P : Program) (ora : Ora) : Prop :=
  ∀ (o : Oper) (e : Operand → SV) (v : SV), ora o.op e = some v → ∀ m h (av : Operand → Value), (∀ x, R σ m (e x) (av x)) → ∀ w, RW σ β m h w → ∃ v', R σ m v v' ∧ (execOp av o).run P w = .ok (.value v') w

theorem evOpO_quiet {ora : Ora} (hora : OraOK σ β P ora) {h : Hp} {ev : Operand → SV} {av : Operand → Value} (hE : ∀ x, R σ m (ev x) (av x)) {o : Oper} {rs : Rs} (hq : quietOp P o.op = true)
    (he : evOpO P ora h ev o.op = some rs) : NPs σ β P m h (execOp av o) rs := by
  unfold evOpO at he
  split at he
  · rename_i v hv
    cases he
    exact ⟨[], _, List.mem_singleton.2 rfl, PC.nil, .inr ⟨v, rfl, fun w H => hora o ev v hv m h av hE w H⟩⟩
  · exact evOp_quiet hE hq he

theorem evOpO_sound {ora : Ora} (hora : OraOK σ β P ora) {h : Hp} (H : RW σ β m h w) {ev : Operand → SV} {av : Operand → Value} (hE : ∀ x, R σ m (ev x) (av x)) {o : Oper} {rs : Rs}
    (he : evOpO P ora h ev o.op = some rs) : NRs σ β P m (execOp av o) w rs := by
  unfold evOpO at he
  split at he
  · rename_i v hv
    cases he
    obtain ⟨v', k1, k2⟩ := hora o ev v hv m h av hE w H
    exact NRs.single ⟨v', w, m, m.le_refl, H, k1, .inl k2⟩
  · exact evOp_sound H hE he

/-- Calls are as the caller says. -/
def CallOK (σ : Vl) (β : Bs) (P : Program) (gl : Nat → Option Nat) (call : Caller) : Prop :=
  ∀ f args h pc rets, call f args h pc = some rets → ∀ m w (vals : List Value), RW σ β m h w → RL σ m args vals → PC σ pc → GL gl m → (∀ h' pc', ((none : Option SV), h', pc') ∈ rets → ¬ PC σ pc') →
    Calls P f vals.toArray w fun e w' => ∃ v h' pc' m' v', ((some v : Option SV), h', pc') ∈ rets ∧ PC σ pc' ∧ m.le m' ∧ RW σ β m' h' w' ∧ R σ m' v v' ∧ e = .returned v'

theorem evOper_sound {ora : Ora} {call : Caller} (hora : OraOK σ β P ora) (hcall : CallOK σ β P gl call) {o : Oper} {outs : Outs} (he : evOper P gl ora call o s = some outs) (H : RS σ β gl m s a w) (hnb : NB σ outs)
    {K : Act → World → Prop} {Q : Exit → Act → World → Prop} (hK : ∀ s' m' a' w', (OK.normal, s') ∈ outs → m.le m' → RS σ β gl m' s' a' w' → K a' w') : o.wp P a w K Q := by
  unfold evOper at he
  obtain ⟨rs, hrs, hall⟩ := bindO_mem he
  obtain ⟨cs, r, h1, h2, h3⟩ := evOpO_sound hora H.hp (evOperand_R H) hrs
  obtain ⟨x, hx, hsub⟩ := hall _ h1
  rw [evRr_eq] at hx
  simp only [appK_eq] at hx
  split at hx
  · rename_i hw
    exact (ways_none hw H.pc h2).elim
  · rename_i cs' hw
    have hcs' := (ways_some hw H.pc).2 h2
    have H1 := H.assume hcs'
    split at hx
    · rename_i v h'
      have hx : some [(OK.normal, { (s.assume cs') with hp := h' }.put o.dst (v.red (s.assume cs').pc))] = some x := by
        rw [← hx]
        simp only [putK_eq, fcH_eq, ite_self, St.assume, St.un_eq]
        cases o.dst with
        | none => rfl
        | some d => simp only [St.put]; cases Nat.ble (Nat.succ d) s.nt <;> rfl
      cases hx
      obtain ⟨v', w', m', k1, k2, k3, k4⟩ := h3
      have hres := hK _ m' (a.put o.dst v') w' (hsub _ (List.mem_singleton.2 rfl)) k1 (H1.put k1 k2 (R_red H1.pc k3) o.dst)
      unfold Oper.wp
      rcases k4 with k4 | ⟨k4, rfl⟩
      · rw [k4]; exact hres
      · rw [k4]; exact hres
    · cases hx
      exact (hnb _ (hsub _ (List.mem_singleton.2 rfl)) H1.pc).elim
    · rename_i f args
      obtain ⟨vals, k1, k2⟩ := h3
      split at hx
      · cases hx
      · rename_i l hl
        cases hx
        have hc := hcall f args s.hp (s.assume cs').pc l hl m w vals H.hp k1 H1.pc H.gl (fun h' pc' hm hp =>
          hnb { (s.assume cs') with hp := h', pc := pc' } (hsub _ (List.mem_map.2 ⟨_, hm, rfl⟩)) hp)
        unfold Oper.wp
        rw [k2]
        refine hc.mono fun e w' he => ?_
        obtain ⟨v, h', pc', m', v', g1, g2, g3, g4, g5, rfl⟩ := he
        have H2 : RS σ β gl m { (s.assume cs') with pc := pc' } a w := ⟨H1.tm, H1.nt, H1.hp, g2, H1.de, H1.gl⟩
        exact hK _ m' (a.put o.dst v') w' (hsub _ (List.mem_map.2 ⟨_, g1, rfl⟩)) g3 (H2.put g3 g4 g5 o.dst)

theorem want_sound (H : RS σ β gl m s a w) (ops : Array Oper) (o : Oper) :
    match wantSV ops s.tm o with
    | .yes => Region.wanted o (yielded ops a.tmps) = true
    | .no => Region.wanted o (yielded ops a.tmps) = false
    | .iff c => Region.wanted o (yielded ops a.tmps) = c.B σ
    | .dunno => True := by
  unfold wantSV Region.wanted
  cases hg : o.guard with
  | none => rfl
  | some jw =>
    obtain ⟨j, wn⟩ := jw
    simp only
    unfold yielded
    cases hd : (ops[j]?).bind (·.dst) with
    | none => simp
    | some d =>
      simp only [Option.bind_some]
      have h2 := slot_R H d
      generalize slot s.tm d = v at h2
      have key : ∃ v', R σ m v v' ∧ (a.tmps[d]? = some v' ∨ (a.tmps[d]? = none ∧ v' = undef)) := by
        refine ⟨_, h2, ?_⟩
        by_cases hd : d < a.tmps.size
        · left; simp [Array.getD_eq_getD_getElem?, hd]
        · have h1 : a.tmps[d]? = none := Array.getElem?_eq_none_iff.2 (Nat.le_of_not_lt hd)
          right; exact ⟨h1, by simp [Array.getD_eq_getD_getElem?, h1]⟩
      clear h2
      obtain ⟨v', h2, hv | ⟨hv, hu⟩⟩ := key
      all_goals rw [hv]
      rotate_left
      · subst hu
        cases v with
        | bool b => unfold R at h2; cases h2
        | tup vs => simp
        | int k x => simp
        | _ => trivial
      · skip
        cases v with
        | bool b =>
          unfold R at h2; subst h2
          cases b with
          | tt t => simp only [X.B, X.d]; cases t <;> cases wn <;> rfl
          | _ => cases wn <;> simp [not_B]
        | tup vs => unfold R at h2; obtain ⟨us, rfl, _⟩ := h2; simp
        | int k x => unfold R at h2; subst h2; simp
        | _ => trivial

/-- The ways of a row of operations. -/
theorem evOps_sound {ora : Ora} {call : Caller} (hora : OraOK σ β P ora) (hcall : CallOK σ β P gl call) {ops : Array Oper} {Q : Exit → Act → World → Prop} : ∀ (l : List Oper) (s : St) (outs : Outs) (m : Md) (a : Act) (w : World),
    evOps P gl ora call ops l s = some outs → RS σ β gl m s a w → NB σ outs → (∀ s' m' a' w', (OK.normal, s') ∈ outs → m.le m' → RS σ β gl m' s' a' w' → Q .normal a' w') → wpList P ops Q l a w
  | [], s, outs, m, a, w, he, H, _, hQ => by
    unfold evOps at he; cases he
    exact hQ s m a w (List.mem_singleton.2 rfl) m.le_refl H
  | o :: rest, s, outs, m, a, w, he, H, hnb, hQ => by
    have hgo : ∀ (s : St) (outs : Outs), (bindO (evOper P gl ora call o s) fun (x : OK × St) => match x.1 with
        | .normal => evOps P gl ora call ops rest x.2
        | k => some [(k, x.2)]) = some outs → RS σ β gl m s a w → NB σ outs → (∀ s' m' a' w', (OK.normal, s') ∈ outs → m.le m' → RS σ β gl m' s' a' w' → Q .normal a' w') →
        o.wp P a w (wpList P ops Q rest) Q := by
      intro s outs he H hnb hQ
      obtain ⟨l', hl', hall⟩ := bindO_mem he
      refine evOper_sound hora hcall hl' H ?_ ?_
      · intro s' hs' hp
        obtain ⟨x, hx, hsub⟩ := hall _ hs'
        cases hx
        exact hnb s' (hsub _ (List.mem_singleton.2 rfl)) hp
      · intro s' m' a' w' hs' hle H'
        obtain ⟨x, hx, hsub⟩ := hall _ hs'
        exact evOps_sound hora hcall rest s' x m' a' w' hx H' (fun s2 h2 => hnb s2 (hsub _ h2)) fun s2 m2 a2 w2 h2 hle2 H2 => hQ s2 m2 a2 w2 (hsub _ h2) (hle.trans hle2) H2
    have hno : ∀ (s : St) (outs : Outs), evOps P gl ora call ops rest (s.put o.dst (.tup [])) = some outs → RS σ β gl m s a w → NB σ outs → (∀ s' m' a' w', (OK.normal, s') ∈ outs → m.le m' → RS σ β gl m' s' a' w' → Q .normal a' w') →
        wpList P ops Q rest (a.put o.dst undef) w := fun s outs he H hnb hQ =>
      evOps_sound hora hcall rest _ outs m _ w he (H.putUndef o.dst) hnb hQ
    have hwant := want_sound H ops o
    unfold evOps at he
    unfold wpList
    simp only at he
    split at he
    · rename_i hw
      rw [hw] at hwant
      rw [if_pos hwant]
      exact .inl (hgo s outs he H hnb hQ)
    · rename_i hw
      rw [hw] at hwant
      rw [if_neg (by simp [hwant])]
      exact hno s outs ((putK_eq s o.dst (.tup []) _).symm.trans he) H hnb hQ
    · rename_i c hw
      rw [hw] at hwant
      simp only at hwant
      split at he
      · rename_i hk
        have := known_sound hk H.pc
        rw [if_pos (by rw [hwant, this])]
        exact .inl (hgo s outs he H hnb hQ)
      · rename_i hk
        have := known_sound hk H.pc
        rw [if_neg (by rw [hwant, this]; simp)]
        exact hno s outs ((putK_eq s o.dst (.tup []) _).symm.trans he) H hnb hQ
      · split at he
        · rename_i x y hx hy
          cases he
          cases hc : c.B σ with
          | true =>
            rw [if_pos (by rw [hwant, hc])]
            exact .inl (hgo _ x hx (H.assume (by rw [PC.cons]; exact ⟨hc, PC.nil⟩)) (fun s' h' => hnb s' (List.mem_append.2 (.inl h'))) fun s' m' a' w' h' => hQ s' m' a' w' (List.mem_append.2 (.inl h')))
          | false =>
            rw [if_neg (by rw [hwant, hc]; simp)]
            exact hno _ y hy (H.assume (by rw [PC.cons]; exact ⟨by rw [not_B, hc]; rfl, PC.nil⟩)) (fun s' h' => hnb s' (List.mem_append.2 (.inr h'))) fun s' m' a' w' h' => hQ s' m' a' w' (List.mem_append.2 (.inr h'))
        · cases he
    · cases he

end

end Go.Sy
