/- A symbolic evaluator for the model's programs: every operation. -/
import Derived.Test.YtfbhiknjhcbfoaaDoorSy13
namespace Go.Sy

section
variable {σ : Vl} {β : Bs} {P : Program} {m : Md} {h : Hp} {w : World}

theorem RL_map {ev : Operand → SV} {av : Operand → Value} (hE : ∀ x, R σ m (ev x) (av x)) : ∀ (l : List Operand), RL σ m (l.map ev) (l.map av)
  | [] => RL_nil.2 rfl
  | x :: l => RL_cons'.2 ⟨hE x, RL_map hE l⟩

/-! ### builtins -/

theorem min2_run {a b : X} {k k' : IntKind} (w : World) : (Builtin.min2 (.int k (a.I σ)) (.int k' (b.I σ))).run P w = .ok (.int k ((mkMn a b).I σ)) w := by
  simp only [Builtin.min2, Sem.run_pure, X.I, mkMn_d, X.d]
theorem max2_run {a b : X} {k k' : IntKind} (w : World) : (Builtin.max2 (.int k (a.I σ)) (.int k' (b.I σ))).run P w = .ok (.int k ((mkMx a b).I σ)) w := by
  simp only [Builtin.max2, Sem.run_pure, X.I, mkMx_d, X.d]

theorem evBuiltin_sound (H : RW σ β m h w) {b : Builtin} {at_ : Array TypeId} {ty : TypeId} {consts : Array Bool} {args : List SV} {vals : List Value} {r : SV × Hp}
    (he : evBuiltin P h b at_.toList args = some r) (hr : RL σ m args vals) :
    ∃ v' w' m', m.le m' ∧ RW σ β m' r.2 w' ∧ R σ m' r.1 v' ∧ (builtin b at_ ty consts vals.toArray).run P w = .ok (.value v') w' := by
  obtain ⟨ats⟩ := at_
  unfold evBuiltin at he
  split at he
  · rename_i t ts x xs hat
    simp only at hat; subst hat
    rw [RL_cons] at hr; obtain ⟨x', xs', rfl, hx, _⟩ := hr
    obtain ⟨v, hv, rfl⟩ := Option.map_eq_some_iff.1 he
    obtain ⟨v', w', m', h1, h2, h3, h4⟩ := (evLen_sound (ty := ty) (ts := ts) (xs := xs') hv hx).vr H
    exact ⟨v', w', m', h1, h2, h3, by simp [builtin, h4]⟩
  · rename_i t ts a n c xs hat
    simp only at hat; subst hat
    rw [RL_cons] at hr; obtain ⟨x', xs', rfl, hx, _⟩ := hr
    split at he
    · rename_i e hu
      cases he
      refine ⟨.int .i64 c, w, m, m.le_refl, H, by unfold R; rfl, ?_⟩
      cases a with
      | none => unfold R at hx; obtain ⟨C, rfl, rfl⟩ := hx; simp [builtin, Builtin.cap_, run_underlying hu, goInt]
      | some p => unfold R at hx; obtain ⟨_, C, _, rfl, rfl⟩ := hx; simp [builtin, Builtin.cap_, run_underlying hu, goInt]
    · cases he
  · rename_i t u s x hat
    simp only at hat; subst hat
    rw [RL_cons] at hr; obtain ⟨s', xs', rfl, hs, hr⟩ := hr
    rw [RL_cons] at hr; obtain ⟨x', xs', rfl, hx, hr⟩ := hr
    rw [RL_nil] at hr; subst hr
    obtain ⟨v', w', m', h1, h2, h3, h4⟩ := evAppend_sound (ty := ty) H he hs hx
    exact ⟨v', w', m', h1, h2, h3, by simp [builtin, h4]⟩
  · rename_i t ts d x hat
    simp only at hat; subst hat
    rw [RL_cons] at hr; obtain ⟨s', xs', rfl, hs, hr⟩ := hr
    rw [RL_cons] at hr; obtain ⟨x', xs', rfl, hx, hr⟩ := hr
    rw [RL_nil] at hr; subst hr
    have key : ∀ ats : Array TypeId, ats[0]? = some t → (Builtin.copy_ ats ty #[s', x']).run P w = (Builtin.copy_ #[t, t] ty #[s', x']).run P w := by
      intro ats ha
      unfold Builtin.copy_
      simp [ha]
    obtain ⟨v', w', m', h1, h2, h3, h4⟩ := evCopy_sound (ty := ty) (sT := t) H he hs hx
    exact ⟨v', w', m', h1, h2, h3, by simp only [builtin, Sem.run_bind, key (t :: ts).toArray (by simp), h4, Result.andThen_ok, Sem.run_pure]⟩
  · rename_i k a k2 b
    cases he
    rw [RL_cons] at hr; obtain ⟨x', xs', rfl, hx, hr⟩ := hr
    rw [RL_cons] at hr; obtain ⟨y', xs', rfl, hy, hr⟩ := hr
    rw [RL_nil] at hr; subst hr
    unfold R at hx hy; subst hx; subst hy
    refine ⟨_, w, m, m.le_refl, H, by unfold R; rfl, ?_⟩
    simp only [builtin, Builtin.min_, List.foldlM_cons, List.foldlM_nil, Sem.run_bind, min2_run, Result.andThen_ok, Sem.run_pure]
  · rename_i k a k2 b
    cases he
    rw [RL_cons] at hr; obtain ⟨x', xs', rfl, hx, hr⟩ := hr
    rw [RL_cons] at hr; obtain ⟨y', xs', rfl, hy, hr⟩ := hr
    rw [RL_nil] at hr; subst hr
    unfold R at hx hy; subst hx; subst hy
    refine ⟨_, w, m, m.le_refl, H, by unfold R; rfl, ?_⟩
    simp only [builtin, Builtin.max_, List.foldlM_cons, List.foldlM_nil, Sem.run_bind, max2_run, Result.andThen_ok, Sem.run_pure]
  · rename_i k a k2 b k3 c
    cases he
    rw [RL_cons] at hr; obtain ⟨x', xs', rfl, hx, hr⟩ := hr
    rw [RL_cons] at hr; obtain ⟨y', xs', rfl, hy, hr⟩ := hr
    rw [RL_cons] at hr; obtain ⟨z', xs', rfl, hz, hr⟩ := hr
    rw [RL_nil] at hr; subst hr
    unfold R at hx hy hz; subst hx; subst hy; subst hz
    refine ⟨_, w, m, m.le_refl, H, by unfold R; rfl, ?_⟩
    simp only [builtin, Builtin.min_, List.foldlM_cons, List.foldlM_nil, Sem.run_bind, min2_run, Result.andThen_ok, Sem.run_pure]
  · rename_i k a k2 b k3 c
    cases he
    rw [RL_cons] at hr; obtain ⟨x', xs', rfl, hx, hr⟩ := hr
    rw [RL_cons] at hr; obtain ⟨y', xs', rfl, hy, hr⟩ := hr
    rw [RL_cons] at hr; obtain ⟨z', xs', rfl, hz, hr⟩ := hr
    rw [RL_nil] at hr; subst hr
    unfold R at hx hy hz; subst hx; subst hy; subst hz
    refine ⟨_, w, m, m.le_refl, H, by unfold R; rfl, ?_⟩
    simp only [builtin, Builtin.max_, List.foldlM_cons, List.foldlM_nil, Sem.run_bind, max2_run, Result.andThen_ok, Sem.run_pure]
  · cases he

/-! ### every operation -/

def NR (σ : Vl) (β : Bs) (P : Program) (m : Md) (s : Sem Next) (w : World) : Rr → Prop
  | .bad => True
  | .val v h' => ∃ v' w' m', m.le m' ∧ RW σ β m' h' w' ∧ R σ m' v v' ∧ (s.run P w = .ok (.value v') w' ∨ (s.run P w = .ok .skip w' ∧ v' = undef))
  | .enter f args => ∃ vals : List Value, RL σ m args vals ∧ s.run P w = .ok (.enter f vals.toArray) w

def NRs (σ : Vl) (β : Bs) (P : Program) (m : Md) (s : Sem Next) (w : World) (rs : Rs) : Prop :=
  ∃ cs r, (cs, r) ∈ rs ∧ PC σ cs ∧ NR σ β P m s w r

/-- In every world that fits, the way that is taken hands back one value and leaves the world as it was. -/
def NPs (σ : Vl) (β : Bs) (P : Program) (m : Md) (h : Hp) (s : Sem Next) (rs : Rs) : Prop :=
  ∃ cs r, (cs, r) ∈ rs ∧ PC σ cs ∧ (r = .bad ∨ ∃ v, r = .val v h ∧ ∀ w, RW σ β m h w → ∃ v', R σ m v v' ∧ s.run P w = .ok (.value v') w)

theorem NPs.nrs {s : Sem Next} {rs : Rs} (hn : NPs σ β P m h s rs) (H : RW σ β m h w) : NRs σ β P m s w rs := by
  obtain ⟨cs, r, h1, h2, h3⟩ := hn
  refine ⟨cs, r, h1, h2, ?_⟩
  rcases h3 with rfl | ⟨v, rfl, h3⟩
  · trivial
  · obtain ⟨v', k1, k2⟩ := h3 w H
    exact ⟨v', w, m, m.le_refl, H, k1, .inl k2⟩

theorem NPs.of_VPs {s : Sem Value} {rs : Rs} (hv : VPs σ β P m h s rs) : NPs σ β P m h (do pure (.value (← s))) rs := by
  obtain ⟨cs, r, h1, h2, h3⟩ := hv
  refine ⟨cs, r, h1, h2, h3.imp id ?_⟩
  rintro ⟨v, rfl, hv⟩
  refine ⟨v, rfl, fun w H => ?_⟩
  obtain ⟨v', k1, k2⟩ := hv w H
  exact ⟨v', k1, by simp [k2]⟩

theorem NPs.bad {s : Sem Next} : NPs σ β P m h s [([], .bad)] := ⟨[], _, List.mem_singleton.2 rfl, PC.nil, .inl rfl⟩

theorem NPs.one {s : Sem Next} {v : SV} {v' : Value} (hv : R σ m v v') (hs : ∀ w, s.run P w = .ok (.value v') w) : NPs σ β P m h s [([], .val v h)] :=
  ⟨[], _, List.mem_singleton.2 rfl, PC.nil, .inr ⟨v, rfl, fun w _ => ⟨v', hv, hs w⟩⟩⟩

theorem NRs.single {s : Sem Next} {r : Rr} (h : NR σ β P m s w r) : NRs σ β P m s w [([], r)] := ⟨[], r, List.mem_singleton.2 rfl, PC.nil, h⟩

theorem NRs.of_VR {s : Sem Value} {v : SV} {h' : Hp} (hv : VR σ β P m s w v h') : NRs σ β P m (do pure (.value (← s))) w [([], .val v h')] := by
  obtain ⟨v', w', m', k1, k2, k3, k4⟩ := hv
  exact NRs.single ⟨v', w', m', k1, k2, k3, .inl (by simp [k4])⟩

theorem NRs.bad {s : Sem Next} : NRs σ β P m s w [([], .bad)] := NRs.single trivial

theorem NRs.skip {s : Sem Unit} {h' : Hp} {w' : World} (H : RW σ β m h' w') (hs : s.run P w = .ok () w') : NRs σ β P m (do s; Pure.pure .skip) w [([], .val (.tup []) h')] :=
  NRs.single ⟨undef, w', m, m.le_refl, H, by unfold R; exact ⟨[], rfl, RL_nil.2 rfl⟩, .inr ⟨by simp [hs], rfl⟩⟩

theorem evLift2 {s : Sem Value} {r : Option (SV × Hp)} {rs : Rs} (he : lift2 r = some rs) (hv : ∀ u, r = some u → VR σ β P m s w u.1 u.2) : NRs σ β P m (do pure (.value (← s))) w rs := by
  unfold lift2 at he
  obtain ⟨u, hu, rfl⟩ := Option.map_eq_some_iff.1 he
  exact NRs.of_VR (hv u hu)

theorem evPick {x : SV} {xv av bv : Value} {a b : SV} {s : Sem Next} {rs : Rs} (he : (match x with
    | .bool x => match x with
      | .tt t => one (if t then a else b) h
      | x => some [([x], .val a h), ([.not x], .val b h)]
    | _ => none) = some rs) (hx : R σ m x xv) (ha : R σ m a av) (hb : R σ m b bv)
    (hs : ∀ t, xv = .bool t → ∀ w, s.run P w = .ok (.value (if t then av else bv)) w) : NPs σ β P m h s rs := by
  split at he
  · rename_i x
    unfold R at hx
    split at he
    · rename_i t
      cases he
      exact NPs.one (v' := if t then av else bv) (by cases t <;> assumption) (hs _ hx)
    · cases he
      have h1 := hs _ hx
      cases hc : X.B σ x with
      | true =>
        rw [hc] at h1
        exact ⟨[x], _, List.mem_cons_self, by rw [PC.cons]; exact ⟨hc, PC.nil⟩, .inr ⟨_, rfl, fun w _ => ⟨av, ha, h1 w⟩⟩⟩
      | false =>
        rw [hc] at h1
        exact ⟨[.not x], _, List.mem_cons_of_mem _ List.mem_cons_self, by rw [PC.cons]; exact ⟨by rw [not_B, hc]; rfl, PC.nil⟩, .inr ⟨_, rfl, fun w _ => ⟨bv, hb, h1 w⟩⟩⟩
  · cases he

theorem evNil {x : SV} {xv : Value} {s : Sem Next} {rs : Rs} (he : (match x with
    | .ptr none => some [([], .bad)]
    | .ptr (some p) => one (.ptr (some p)) h
    | .sl a n c => one (.sl a n c) h
    | _ => none) = some rs) (hx : R σ m x xv) (hs1 : ∀ a, xv = .pointer (some a) → ∀ w, s.run P w = .ok (.value xv) w) (hs2 : ∀ a n c, xv = .slice a n c → ∀ w, s.run P w = .ok (.value xv) w) : NPs σ β P m h s rs := by
  split at he
  · cases he; exact NPs.bad
  · cases he
    have hx' := hx
    unfold R at hx
    obtain ⟨B, _, e⟩ := hx
    exact NPs.one hx' (hs1 _ e)
  · rename_i a n c
    cases he
    have hx' := hx
    cases a with
    | none => unfold R at hx; obtain ⟨_, _, e⟩ := hx; exact NPs.one hx' (hs2 _ _ _ e)
    | some p => unfold R at hx; obtain ⟨_, _, _, _, e⟩ := hx; exact NPs.one hx' (hs2 _ _ _ e)
  · cases he

theorem evBinR {l? : Option (List (List X × Option SV))} {s : Sem Value} {rs : Rs} (he : (l?.map fun l => l.map fun (cs, r) => match r with
    | some v => (cs, Rr.val v h)
    | none => (cs, Rr.bad)) = some rs) (hb : ∀ l, l? = some l → BinR σ P m s l) : NPs σ β P m h (do pure (.value (← s))) rs := by
  obtain ⟨l, hl, rfl⟩ := Option.map_eq_some_iff.1 he
  obtain ⟨cs, r, k1, k2, k3⟩ := hb l hl
  rcases k3 with rfl | ⟨v, v', rfl, g1, g2⟩
  · exact ⟨cs, .bad, List.mem_map.2 ⟨(cs, none), k1, rfl⟩, k2, .inl rfl⟩
  · exact ⟨cs, .val v h, List.mem_map.2 ⟨(cs, some v), k1, rfl⟩, k2, .inr ⟨v, rfl, fun w _ => ⟨v', g1, by simp [g2]⟩⟩⟩

theorem parts_rel {ev : Operand → SV} {av : Operand → Value} (hE : ∀ x, R σ m (ev x) (av x)) (parts : List (Nat × Operand)) :
    (parts.map fun p => (p.1, ev p.2)).map (·.1) = (parts.map fun p => (p.1, av p.2)).map (·.1) ∧ RL σ m ((parts.map fun p => (p.1, ev p.2)).map (·.2)) ((parts.map fun p => (p.1, av p.2)).map (·.2)) := by
  constructor
  · simp [Function.comp_def]
  · rw [List.map_map, List.map_map]
    have := RL_map hE (parts.map (·.2))
    simpa [List.map_map, Function.comp_def] using this

theorem parts_arr (av : Operand → Value) (parts : Array (Nat × Operand)) : (parts.map fun (p : Nat × Operand) => (p.1, av p.2)) = (parts.toList.map fun p => (p.1, av p.2)).toArray := by
  apply Array.ext'; simp

theorem evMkIface {t : TypeId} {x : SV} {xv : Value} {rs : Rs} (he : (match P.underlying t with
    | some (.interface _) => none
    | some _ => one (.iface t x) h
    | none => none) = some rs) (hx : R σ m x xv) : NPs σ β P m h (do pure (.value (← Instr.makeInterface t xv))) rs := by
  split at he
  · cases he
  · rename_i d hne hu
    cases he
    refine NPs.one (v' := .iface t xv) (by unfold R; exact ⟨_, rfl, hx⟩) fun w => ?_
    simp only [Instr.makeInterface, Sem.run_bind, run_underlying hu, Result.andThen_ok]
    cases d <;> first | (exact (hne _ rfl).elim) | simp
  · cases he

theorem evExtract {t : SV} {tv : Value} {i : Nat} {rs : Rs} (he : (match t with
    | .tup vs => lift1 h vs[i]?
    | _ => none) = some rs) (ht : R σ m t tv) : NPs σ β P m h (do pure (.value (← Instr.extract tv i))) rs := by
  split at he
  · unfold R at ht
    obtain ⟨us, rfl, hr⟩ := ht
    refine NPs.of_VPs (lift1_sound he fun u hu w H => ?_)
    obtain ⟨v', hv, hvr⟩ := RL_get hr i u hu
    exact ⟨v', hvr, by simp [Instr.extract, hv]⟩
  · cases he

theorem evBuiltin_quiet {b : Builtin} {at_ : Array TypeId} {ty : TypeId} {consts : Array Bool} {args : List SV} {vals : List Value} {r : SV × Hp}
    (hq : b = .len ∨ b = .cap ∨ b = .min ∨ b = .max) (he : evBuiltin P h b at_.toList args = some r) (hr : RL σ m args vals) :
    r.2 = h ∧ ∀ w, RW σ β m h w → ∃ v', R σ m r.1 v' ∧ (builtin b at_ ty consts vals.toArray).run P w = .ok (.value v') w := by
  obtain ⟨ats⟩ := at_
  unfold evBuiltin at he
  split at he
  · rename_i t ts x xs hat
    simp only at hat; subst hat
    rw [RL_cons] at hr; obtain ⟨x', xs', rfl, hx, _⟩ := hr
    obtain ⟨v, hv, rfl⟩ := Option.map_eq_some_iff.1 he
    refine ⟨rfl, fun w H => ?_⟩
    obtain ⟨v', h1, h2⟩ := evLen_sound (ty := ty) (ts := ts) (xs := xs') hv hx w H
    exact ⟨v', h1, by simp [builtin, h2]⟩
  · rename_i t ts a n c xs hat
    simp only at hat; subst hat
    rw [RL_cons] at hr; obtain ⟨x', xs', rfl, hx, _⟩ := hr
    split at he
    · rename_i e hu
      cases he
      refine ⟨rfl, fun w H => ⟨.int .i64 c, by unfold R; rfl, ?_⟩⟩
      cases a with
      | none => unfold R at hx; obtain ⟨C, rfl, rfl⟩ := hx; simp [builtin, Builtin.cap_, run_underlying hu, goInt]
      | some p => unfold R at hx; obtain ⟨_, C, _, rfl, rfl⟩ := hx; simp [builtin, Builtin.cap_, run_underlying hu, goInt]
    · cases he
  · rcases hq with e | e | e | e <;> cases e
  · rcases hq with e | e | e | e <;> cases e
  · rename_i k a k2 b
    cases he
    rw [RL_cons] at hr; obtain ⟨x', xs', rfl, hx, hr⟩ := hr
    rw [RL_cons] at hr; obtain ⟨y', xs', rfl, hy, hr⟩ := hr
    rw [RL_nil] at hr; subst hr
    unfold R at hx hy; subst hx; subst hy
    refine ⟨rfl, fun w H => ⟨_, by unfold R; rfl, ?_⟩⟩
    simp only [builtin, Builtin.min_, List.foldlM_cons, List.foldlM_nil, Sem.run_bind, min2_run, Result.andThen_ok, Sem.run_pure]
  · rename_i k a k2 b
    cases he
    rw [RL_cons] at hr; obtain ⟨x', xs', rfl, hx, hr⟩ := hr
    rw [RL_cons] at hr; obtain ⟨y', xs', rfl, hy, hr⟩ := hr
    rw [RL_nil] at hr; subst hr
    unfold R at hx hy; subst hx; subst hy
    refine ⟨rfl, fun w H => ⟨_, by unfold R; rfl, ?_⟩⟩
    simp only [builtin, Builtin.max_, List.foldlM_cons, List.foldlM_nil, Sem.run_bind, max2_run, Result.andThen_ok, Sem.run_pure]
  · rename_i k a k2 b k3 c
    cases he
    rw [RL_cons] at hr; obtain ⟨x', xs', rfl, hx, hr⟩ := hr
    rw [RL_cons] at hr; obtain ⟨y', xs', rfl, hy, hr⟩ := hr
    rw [RL_cons] at hr; obtain ⟨z', xs', rfl, hz, hr⟩ := hr
    rw [RL_nil] at hr; subst hr
    unfold R at hx hy hz; subst hx; subst hy; subst hz
    refine ⟨rfl, fun w H => ⟨_, by unfold R; rfl, ?_⟩⟩
    simp only [builtin, Builtin.min_, List.foldlM_cons, List.foldlM_nil, Sem.run_bind, min2_run, Result.andThen_ok, Sem.run_pure]
  · rename_i k a k2 b k3 c
    cases he
    rw [RL_cons] at hr; obtain ⟨x', xs', rfl, hx, hr⟩ := hr
    rw [RL_cons] at hr; obtain ⟨y', xs', rfl, hy, hr⟩ := hr
    rw [RL_cons] at hr; obtain ⟨z', xs', rfl, hz, hr⟩ := hr
    rw [RL_nil] at hr; subst hr
    unfold R at hx hy hz; subst hx; subst hy; subst hz
    refine ⟨rfl, fun w H => ⟨_, by unfold R; rfl, ?_⟩⟩
    simp only [builtin, Builtin.max_, List.foldlM_cons, List.foldlM_nil, Sem.run_bind, max2_run, Result.andThen_ok, Sem.run_pure]
  · cases he

theorem callBuiltin_eq (av : Operand → Value) (b : Builtin) (args : Array Operand) (ats : Array TypeId) (ty : TypeId) :
    (do let d ← resolve av { callee := .builtin b, args := args, argTypes := ats } ty; invoke d.target d.args) = builtin b ats ty (args.map fun | .const _ => true | _ => false) (args.toList.map av).toArray := by
  have e : args.map av = (args.toList.map av).toArray := by apply Array.ext'; simp
  rw [← e]
  rfl

theorem evQuietCall {ev : Operand → SV} {av : Operand → Value} (hE : ∀ x, R σ m (ev x) (av x)) {b : Builtin} {args : Array Operand} {ats : Array TypeId} {ty : TypeId} {rs : Rs} (hq : b = .len ∨ b = .cap ∨ b = .min ∨ b = .max)
    (he : evCall P h ev { callee := .builtin b, args := args, argTypes := ats } = some rs) :
    NPs σ β P m h (do let d ← resolve av { callee := .builtin b, args := args, argTypes := ats } ty; invoke d.target d.args) rs := by
  unfold evCall at he
  simp only at he
  split at he
  · rename_i v h' hb
    cases he
    obtain ⟨e, k⟩ := evBuiltin_quiet (σ := σ) (β := β) (ty := ty) (consts := args.map fun | .const _ => true | _ => false) hq hb (RL_map hE args.toList)
    simp only at e; subst e
    rw [callBuiltin_eq]
    exact ⟨[], _, List.mem_singleton.2 rfl, PC.nil, .inr ⟨v, rfl, k⟩⟩
  · cases he

theorem evOp_quiet {ev : Operand → SV} {av : Operand → Value} (hE : ∀ x, R σ m (ev x) (av x)) {o : Oper} {rs : Rs} (hq : quietOp P o.op = true) (he : evOp P h ev o.op = some rs) :
    NPs σ β P m h (execOp av o) rs := by
  obtain ⟨dst, op, ty, pos, after, guard⟩ := o
  cases op with
  | move x => cases he; exact NPs.one (hE x) fun w => rfl
  | assign x => cases he; exact NPs.one (hE x) fun w => rfl
  | pick c a b => exact evPick he (hE c) (hE a) (hE b) fun t ht w => by simp [execOp, ht, asBool]
  | build t parts =>
    obtain ⟨k1, k2⟩ := parts_rel hE parts.toList
    show NPs σ β P m h (do pure (.value (← Instr.build t (parts.map fun p => (p.1, av p.2))))) rs
    rw [parts_arr]
    exact NPs.of_VPs (lift1_sound he fun u hu => evBuild_sound hu k1 k2)
  | load t a => exact NPs.of_VPs (lift1_sound he fun u hu => evLoad_sound hu (hE _))
  | nilCheck x => exact evNil he (hE x) (fun a ha w => by simp [execOp, ha]) (fun a n c ha w => by simp [execOp, ha])
  | binOp bop t x y yt => exact evBinR he fun l hl => evBin_sound hl (hE x) (hE y)
  | unOp uop t x => exact NPs.of_VPs (lift1_sound he fun u hu => evUn_sound hu (hE _))
  | convert s d x =>
    simp only [quietOp] at hq
    split at hq
    · rename_i k hs
      have he' : lift2 (evConv P h s d (ev x)) = some rs := he
      unfold lift2 at he'
      obtain ⟨u, hu, rfl⟩ := Option.map_eq_some_iff.1 he'
      obtain ⟨e, k⟩ := evConv_quiet (σ := σ) (β := β) hu hs (hE x)
      rw [e]
      exact NPs.of_VPs (VPs.one k)
    · cases hq
  | makeInterface t x => exact evMkIface he (hE x)
  | makeFunc fn first cap =>
    cases he
    refine NPs.one (v' := .func fn (first.toList.map av).toArray (cap.toList.map av).toArray) (by unfold R; exact ⟨_, _, rfl, RL_map hE _, RL_map hE _⟩) fun w => ?_
    have e1 : first.map av = (first.toList.map av).toArray := by apply Array.ext'; simp
    have e2 : cap.map av = (cap.toList.map av).toArray := by apply Array.ext'; simp
    rw [← e1, ← e2]
    rfl
  | slice t x lo hi mx => exact NPs.of_VPs (lift1_sound he fun u hu => evSlice_sound hu (hE _) (optMap fun _ _ => hE _) (optMap fun _ _ => hE _) (optMap fun _ _ => hE _))
  | fieldAddr s x f => exact NPs.of_VPs (lift1_sound he fun u hu => evFieldAddr_sound hu (hE _))
  | field t x f => exact NPs.of_VPs (lift1_sound he fun u hu => evField_sound hu (hE _))
  | indexAddr t x i => exact NPs.of_VPs (evIndexAddr_sound he (hE _) (hE _))
  | index t x i => exact NPs.of_VPs (evIndex_sound he (hE _) (hE _))
  | lookup t x k ok => exact NPs.of_VPs (evLookup_sound he (hE _) (hE _))
  | extract t i => exact evExtract he (hE t)
  | call c =>
    obtain ⟨callee, args, ats⟩ := c
    cases callee with
    | builtin b => exact evQuietCall hE (by cases b <;> first | (cases hq; done) | simp) he
    | value f => cases hq
    | invoke r n => cases hq
  | _ => cases hq

theorem evCall_sound (H : RW σ β m h w) {ev : Operand → SV} {av : Operand → Value} (hE : ∀ x, R σ m (ev x) (av x)) {c : Call} {ty : TypeId} {rs : Rs} (he : evCall P h ev c = some rs) :
    NRs σ β P m (do let d ← resolve av c ty; invoke d.target d.args) w rs := by
  unfold evCall at he
  split at he
  · rename_i b hc
    split at he
    · rename_i v h' hb
      cases he
      obtain ⟨v', w', m', h1, h2, h3, h4⟩ := evBuiltin_sound (ty := ty) (consts := c.args.map fun | .const _ => true | _ => false) H hb (RL_map hE c.args.toList)
      refine NRs.single ⟨v', w', m', h1, h2, h3, .inl ?_⟩
      have e : c.args.map av = (c.args.toList.map av).toArray := by apply Array.ext'; simp
      have e2 : (do let d ← resolve av c ty; invoke d.target d.args) = builtin b c.argTypes ty (c.args.map fun | .const _ => true | _ => false) (c.args.map av) := by
        unfold resolve
        rw [hc]
        rfl
      rw [e2, e]
      exact h4
    · cases he
  · rename_i f hc
    split at he
    · rename_i f' first cap hf
      split at he
      · rename_i hb
        cases he
        unfold asFunc at hf
        split at hf
        · rename_i heq
          cases hf
          have hfv := hE f
          rw [heq] at hfv
          unfold R at hfv
          obtain ⟨va, vb, e, h1, h2⟩ := hfv
          refine NRs.single ⟨va ++ c.args.toList.map av ++ vb, RL_append (RL_append h1 (RL_map hE c.args.toList)) h2, ?_⟩
          unfold hasBody at hb
          split at hb
          · rename_i fn hfn
            simp only [Bool.and_eq_true, beq_iff_eq] at hb
            simp only [resolve, hc, e, Deferred.ofValue, Sem.run_bind, Sem.run_pure, Result.andThen_ok, invoke, callFunc, run_program, hfn]
            rw [if_neg (by simp [hb.2]), if_neg (by have := hb.1; cases hq : fn.body <;> simp_all)]
            simp only [Sem.run_pure]
            congr 2
            apply Array.ext'
            simp
          · cases hb
        · cases hf
      · cases he
    · split at he
      · cases he; exact NRs.bad
      · cases he
  · cases he

theorem execOp_buildSlice (av : Operand → Value) (dst : Option Tmp) (t : TypeId) (n : Nat) (parts : Array (Nat × Operand)) (ty : TypeId) (pos : String) (after : Array Edge) (guard : Option (Nat × Bool)) :
    execOp av ⟨dst, .buildSlice t n parts, ty, pos, after, guard⟩ = (do pure (.value (← Instr.buildSlice t n (parts.toList.map fun p => (p.1, av p.2)).toArray))) := by
  rw [← parts_arr]
  simp only [execOp]

theorem evBS (H : RW σ β m h w) {ev : Operand → SV} {av : Operand → Value} (hE : ∀ x, R σ m (ev x) (av x)) {t : TypeId} {n : Nat} {parts : Array (Nat × Operand)} {rs : Rs}
    (he : lift2 (evBuildSlice P h t n (parts.toList.map fun p => (p.1, ev p.2))) = some rs) :
    NRs σ β P m (do pure (.value (← Instr.buildSlice t n (parts.toList.map fun p => (p.1, av p.2)).toArray))) w rs := by
  obtain ⟨k1, k2⟩ := parts_rel hE parts.toList
  unfold lift2 at he
  obtain ⟨u, hu, rfl⟩ := Option.map_eq_some_iff.1 he
  have hv := evBuildSlice_sound H hu k1 k2
  exact NRs.of_VR hv

theorem evOp_loud (H : RW σ β m h w) {ev : Operand → SV} {av : Operand → Value} (hE : ∀ x, R σ m (ev x) (av x)) {o : Oper} {rs : Rs} (hq : quietOp P o.op = false) (he : evOp P h ev o.op = some rs) :
    NRs σ β P m (execOp av o) w rs := by
  obtain ⟨dst, op, ty, pos, after, guard⟩ := o
  cases op with
  | alloc t =>
    have he' : (match tyZero P t with
      | some z => if z.told then one (.ptr (some (h.nx, 0))) (h.new (.cells z.cells t none (0, 0))) else none
      | none => none) = some rs := he
    split at he'
    · rename_i z hz
      split at he'
      · rename_i ht
        cases he'
        exact NRs.of_VR (evAlloc_sound H hz ht)
      · cases he'
    · cases he'
  | box t x =>
    have he' : (if (ev x).told then one (.ptr (some (h.nx, 0))) (h.new (.cells (ev x).cells t none (0, 0))) else none) = some rs := he
    split at he'
    · rename_i ht
      cases he'
      exact NRs.of_VR (evBox_sound H (hE _) ht)
    · cases he'
  | buildSlice t n parts =>
    rw [execOp_buildSlice]
    exact evBS H hE he
  | store t a x =>
    have he' : ((evStore P h t (ev a) (ev x)).map fun h' => [([], Rr.val (.tup []) h')]) = some rs := he
    obtain ⟨h', hs, rfl⟩ := Option.map_eq_some_iff.1 he'
    obtain ⟨w', hw, H'⟩ := evStore_sound H hs (hE _) (hE _)
    exact NRs.skip H' hw
  | convert s d x =>
    have he' : lift2 (evConv P h s d (ev x)) = some rs := he
    exact evLift2 (s := convert s d (av x)) he' fun u hu => evConv_sound H hu (hE _)
  | makeMap t r =>
    cases r with
    | none =>
      cases he
      refine NRs.single ⟨.map (some w.heap.size), w.alloc (.map #[] 0), m.new w.heap.size, m.le_new _, H.new (o := .map [] 0) (O := .map #[] 0) ⟨[], rfl, by unfold RE; rfl⟩, ?_, .inl ?_⟩
      · unfold R; exact ⟨w.heap.size, by simp [Md.new, ← H.lenρ], rfl⟩
      · simp [execOp, Instr.makeMap]
    | some r => cases he
  | makeSlice t l c =>
    have he' : lift2 (evMakeSlice P h t (ev l) (ev c)) = some rs := he
    exact evLift2 (s := Instr.makeSlice t (av l) (av c)) he' fun u hu => evMakeSlice_sound H hu (hE _) (hE _)
  | mapUpdate t m' k x =>
    have he' : evMapUpdate P h t (ev m') (ev k) (ev x) = some rs := he
    obtain ⟨h', rfl, w', hw, H'⟩ := evMapUpdate_sound H he' (hE _) (hE _) (hE _)
    exact NRs.skip H' hw
  | insert t m' k x =>
    have he' : evMapUpdate P h t (ev m') (ev k) (ev x) = some rs := he
    obtain ⟨h', rfl, w', hw, H'⟩ := evMapUpdate_sound H he' (hE _) (hE _) (hE _)
    exact NRs.skip H' hw
  | call c => exact evCall_sound H hE he
  | panic x => cases he; exact NRs.bad
  | _ => first | (cases hq; done) | cases he

theorem evOp_sound (H : RW σ β m h w) {ev : Operand → SV} {av : Operand → Value} (hE : ∀ x, R σ m (ev x) (av x)) {o : Oper} {rs : Rs} (he : evOp P h ev o.op = some rs) :
    NRs σ β P m (execOp av o) w rs := by
  cases hq : quietOp P o.op with
  | true => exact (evOp_quiet hE hq he).nrs H
  | false => exact evOp_loud H hE hq he

end

end Go.Sy
