/- The evaluator for the kernel: pieces of code, one behind the other. -/
import Derived.Test.YtfbhiknjhcbfoaaDoorK10
namespace Go.Sy

def rseq : List Code → Code → Code
  | [], t => t
  | c :: l, t => .seq c (rseq l t)

def evL (C : Cfg) (n : Nat) : List Code → St → Option Outs
  | [], s => some [(.normal, s)]
  | c :: l, s => bindO (evC C n c s) fun (k, s') => match k with
    | .normal => evL C n l s'
    | k => some [(k, s')]

noncomputable def runL {C : Cfg} (K : Kit C) (lv : Lv) (l : List Code) : St → KO → R1 :=
  List.rec (motive := fun _ => St → KO → R1) (fun s k => k .normal s) (fun c _ ih s k => (comp C K c).v lv s fun e s => normK e (ih s k) fun e => k e s) l

theorem runL_ok {C : Cfg} {K : Kit C} {n : Nat} : ∀ (l : List Code) (s : St) (k : KO), runL K (lev C K n) l s k = bindO (evL C n l s) (unc k)
  | [], s, k => (bindO_one _ _).symm
  | c :: l, s, k => by
    show (comp C K c).v (lev C K n) s _ = _
    unfold evL
    rw [comp_ok, bindO_assoc]
    exact bindO_congr _ fun x => normK_bind x _ _ k fun s => runL_ok l s k

theorem landL_ok {C : Cfg} {K : Kit C} {n : Nat} {l : List Code} {s : St} {tb : List (X × X)} {tgs : List Tg} (h : okK (runL K (lev C K n) l s (landK tb tgs)) = true) : lands tb tgs (evL C n l s) = true := by
  rw [runL_ok] at h
  obtain ⟨outs, h1, h2⟩ := bindO_all (fun o : OK × St => tgs.any fun tg => meets tb tg o) h
  unfold lands
  rw [h1]
  exact h2

section
variable {σ : Vl} {β : Bs} {tb : List (X × X)} {m : Md} {s : St} {a : Act} {w : World}

theorem evL_sound {C : Cfg} (hora : OraOK σ β C.P C.ora) (hhk : CallOK σ β C.P C.gl C.hk) {n : Nat} {t : Code} {Q : Exit → Act → World → Prop} : ∀ (l : List Code) (s : St) (outs : Outs) (m : Md) (a : Act) (w : World),
    evL C n l s = some outs → RS σ β C.gl m s a w → NB σ outs → (∀ e a' w', Post σ β C.gl m outs e a' w' → Exit.then (t.wp C.P Q) Q e a' w') → (rseq l t).wp C.P Q a w
  | [], s, outs, m, a, w, he, H, _, hQ => by
    cases he
    exact hQ .normal a w ⟨.normal, s, m, List.mem_singleton.2 rfl, trivial, m.le_refl, H⟩
  | c :: l, s, outs, m, a, w, he, H, hnb, hQ => by
    unfold evL at he
    obtain ⟨o, ho, hall⟩ := bindO_mem he
    refine wp_seq ?_
    refine (evC_sound hora hhk n c s o m a w _ ho H ?_ ?_).1
    · intro s' hs hp
      obtain ⟨z, hz, hsub⟩ := hall _ hs
      cases hz
      exact hnb s' (hsub _ (List.mem_singleton.2 rfl)) hp
    · rintro e a' w' ⟨k, s', m', h1, h2, h3, h4⟩
      obtain ⟨z, hz, hsub⟩ := hall _ h1
      cases k with
      | normal =>
        cases e <;> first | exact h2.elim | skip
        exact evL_sound hora hhk l s' z m' a' w' hz h4 (fun s2 h2 => hnb s2 (hsub _ h2)) fun e a2 w2 h => hQ _ _ _ ((h.sub hsub).lift h3)
      | exit i =>
        cases hz
        cases e <;> first | exact h2.elim | skip
        exact hQ _ _ _ ⟨_, s', m', hsub _ (List.mem_singleton.2 rfl), h2, h3, h4⟩
      | ret =>
        cases hz
        cases e <;> first | exact h2.elim | skip
        exact hQ _ _ _ ⟨_, s', m', hsub _ (List.mem_singleton.2 rfl), h2, h3, h4⟩
      | bad => cases e <;> exact h2.elim

theorem landsL_sound {C : Cfg} (ht : ∀ p ∈ tb, p.1.d σ = p.2.d σ) (hora : OraOK σ β C.P C.ora) (hhk : CallOK σ β C.P C.gl C.hk) {n : Nat} {l : List Code} {t : Code} {Q : Exit → Act → World → Prop} {tgs : List Tg}
    (hl : lands tb tgs (evL C n l s) = true) (hng : ∀ tg ∈ tgs, tg.k ≠ .bad) (hg : C.gl = fun _ => none) (H : RS σ β C.gl m s a w)
    (hQ : ∀ e a' w', Landed σ β C.gl tgs e a' w' → Exit.then (t.wp C.P Q) Q e a' w') : (rseq l t).wp C.P Q a w := by
  cases he : evL C n l s with
  | none => rw [he] at hl; cases hl
  | some outs =>
    rw [he] at hl
    have hall : ∀ o ∈ outs, ∃ tg ∈ tgs, meets tb tg o = true := by
      intro o ho
      have := List.all_eq_true.1 hl o ho
      simpa using List.any_eq_true.1 this
    have hk : ∀ tg (o : OK × St), meets tb tg o = true → o.1 = tg.k := by
      intro tg o h
      unfold meets at h
      simp only [Bool.and_eq_true, decide_eq_true_eq] at h
      exact h.1.1.1.1
    refine evL_sound hora hhk l s outs m a w he H ?_ ?_
    · intro s' hs _
      obtain ⟨tg, h1, h2⟩ := hall _ hs
      exact hng tg h1 (hk _ _ h2).symm
    · rintro e a' w' ⟨k, s', m', h1, h2, h3, h4⟩
      obtain ⟨tg, g1, g2⟩ := hall _ h1
      obtain ⟨k1, m2, k2, k3⟩ := meets_land ht g2 (fun g i h => by rw [hg] at h; cases h) h4
      simp only at k1
      subst k1
      exact hQ e a' w' ⟨tg, g1, h2, s', m2, k2, k3⟩
end

end Go.Sy

namespace Go.Sy
section
variable {σ : Vl} {β : Bs} {gl : Nat → Option Nat} {m : Md} {s : St} {a : Act} {w : World} {P : Program}

/-- A function that returns from here. -/
theorem ret_post {fn : Func} {v : SV} {Rr : Ending → World → Prop} (H : RS σ β gl m s a w) (he : evResults P fn s = some v) (hR : ∀ v', R σ m v v' → Rr (.returned v') w) : bodyPost P fn Rr .ret a w := by
  obtain ⟨v', h1, h2⟩ := evResults_sound H he
  exact ⟨H.de, v', h2, hR v' h1⟩

/-- Something new elsewhere. -/
theorem RW.add {h : Hp} {w' : World} (H : RW σ β m h w) (hb : RowKit.Below w.heap.size w w') {B : Nat} {o : SO} {O : Obj} (hB : w.heap.size ≤ B) (hO : w'.heap[B]? = some O) (ho : RO σ (m.new B) o O) : RW σ β (m.new B) (h.new o) w' where
  lenρ := by simp [Md.new, Hp.new, H.lenρ]
  lenκ := by simp [Md.new, Hp.new, H.lenκ]
  obj := fun i o' hi => by
    have H' := H.mono hb
    simp only [Hp.new, T.get_set] at hi
    split at hi
    · rename_i e; subst e; cases hi
      refine ⟨B, O, by simp [Md.new, ← H.lenρ], hO, ho, ?_⟩
      cases e : β.Pr B with
      | none => rfl
      | some q =>
        have := (Array.getElem?_eq_some_iff.1 (H.prot _ _ e)).1
        omega
    · obtain ⟨B', O', h1, h2, h3, h4⟩ := H'.obj i o' hi
      exact ⟨B', O', (m.le_new _).le_ρ h1, h2, RO_mono (m.le_new _) h3, h4⟩
  inj := fun i j o1 o2 h1 h2 h3 => by
    simp only [Hp.new, T.get_set] at h1 h2
    have hlt : ∀ (j : Nat) o2, h.t.get j = some o2 → ∀ B', m.ρ[j]? = some B' → B' < w.heap.size := by
      intro j o2 h2 B' e
      obtain ⟨B2, O', k1, k2, _⟩ := H.obj j o2 h2
      rw [e] at k1; cases k1
      exact (Array.getElem?_eq_some_iff.1 k2).1
    by_cases e1 : i = h.nx
    · by_cases e2 : j = h.nx
      · rw [e1, e2]
      · rw [if_neg e2] at h2
        obtain ⟨B', O', k1, k2, _⟩ := H.obj j o2 h2
        rw [(m.le_new _).le_ρ k1, e1, ← H.lenρ] at h3
        simp [Md.new] at h3
        have := hlt j o2 h2 B' k1
        omega
    · rw [if_neg e1] at h1
      obtain ⟨B', O', k1, k2, _⟩ := H.obj i o1 h1
      by_cases e2 : j = h.nx
      · rw [(m.le_new _).le_ρ k1, e2, ← H.lenρ] at h3
        simp [Md.new] at h3
        have := hlt i o1 h1 B' k1
        omega
      · rw [if_neg e2] at h2
        obtain ⟨B2, O'', k1', _⟩ := H.obj j o2 h2
        refine H.inj i j o1 o2 h1 h2 ?_
        rw [(m.le_new _).le_ρ k1, (m.le_new _).le_ρ k1'] at h3
        rw [k1, k1', h3]
  prot := (H.mono hb).prot
  tape := (H.mono hb).tape
  os := (H.mono hb).os
  out := (H.mono hb).out
  size := (H.mono hb).size
/-- Where a function begins. -/
theorem RS_start {vals : List Value} {d : Nat} {p : Pat} (hos : p.os = []) (h : ∀ i v, (i, v) ∈ p.tm → ∃ u, vals[i]? = some u ∧ R σ ⟨[], []⟩ v u) (hnt : vals.length + d = p.nt) (hpc : PC σ p.pc) :
    RS σ (Bs.of w) (fun _ => none) ⟨[], []⟩ (p.stN 0) { tmps := vals.toArray ++ Array.replicate d undef, defers := [] } w := by
  have e : (p.stN 0).hp = ⟨.nil, 0, 0⟩ := by unfold Pat.stN; rw [hos]; rfl
  have := RS_empty (σ := σ) (a := { tmps := vals.toArray ++ Array.replicate d undef, defers := [] }) (w := w) (tm := tmT p.tm Tm.nil) (nt := p.nt) (fun t => ?_) (by simp [hnt]) rfl hpc
  · refine ⟨this.tm, this.nt, ?_, this.pc, this.de, this.gl⟩
    rw [e]; exact this.hp
  · rcases tmT_get p.tm Tm.nil t with h1 | ⟨v, h1, hv⟩ | h1
    · rw [h1]; exact R_bad _ _ _
    · rw [h1]
      obtain ⟨u, hu, hr⟩ := h t v hv
      have hlt := (List.getElem?_eq_some_iff.1 hu).1
      have e : (vals.toArray ++ Array.replicate d undef).getD t undef = u := by
        rw [Array.getD_eq_getD_getElem?, Array.getElem?_append_left (by simpa using hlt)]
        simp [hu]
      rw [e]; exact hr
    · rw [h1, Tm.get_nil]; exact R_bad _ _ _
end
end Go.Sy
