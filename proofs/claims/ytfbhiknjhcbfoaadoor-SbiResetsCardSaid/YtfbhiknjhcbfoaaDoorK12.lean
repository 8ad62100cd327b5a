/- The evaluator for the kernel: a piece of code, and something behind it. -/
import Derived.Test.YtfbhiknjhcbfoaaDoorK11
namespace Go.Sy
/-- A piece of code, and something behind it. -/
def app : Nat → Code → Code → Code
  | d + 1, .seq a b, t => .seq a (app d b t)
  | _, c, t => .seq c t

section
variable {σ : Vl} {β : Bs} {tb : List (X × X)} {m : Md} {s : St} {a : Act} {w : World}

theorem app_sound {C : Cfg} (hora : OraOK σ β C.P C.ora) (hhk : CallOK σ β C.P C.gl C.hk) {t : Code} {Q : Exit → Act → World → Prop} (d : Nat) (c : Code) : ∀ (n : Nat) (s : St) (outs : Outs) (m : Md) (a : Act) (w : World),
    evC C n c s = some outs → RS σ β C.gl m s a w → NB σ outs → (∀ e a' w', Post σ β C.gl m outs e a' w' → Exit.then (t.wp C.P Q) Q e a' w') → (app d c t).wp C.P Q a w := by
  have base : ∀ c : Code, ∀ (n : Nat) (s : St) (outs : Outs) (m : Md) (a : Act) (w : World),
      evC C n c s = some outs → RS σ β C.gl m s a w → NB σ outs → (∀ e a' w', Post σ β C.gl m outs e a' w' → Exit.then (t.wp C.P Q) Q e a' w') → (Code.seq c t).wp C.P Q a w :=
    fun c n s outs m a w he H hnb hQ => wp_seq (evC_sound hora hhk n c s outs m a w _ he H hnb hQ).1
  induction d generalizing c with
  | zero => cases c <;> exact base _
  | succ d ihd =>
   cases c with
   | seq x y =>
    have ihy := ihd y
    intro n s outs m a w he H hnb hQ
    cases n with
    | zero => unfold evC at he; cases he
    | succ n =>
      unfold evC at he
      obtain ⟨l, hl, hall⟩ := bindO_mem he
      refine wp_seq ?_
      refine (evC_sound hora hhk n x s l m a w _ hl H ?_ ?_).1
      · intro s' hs hp
        obtain ⟨z, hz, hsub⟩ := hall _ hs
        cases hz
        exact hnb s' (hsub _ (List.mem_singleton.2 rfl)) hp
      · rintro e a' w' ⟨k, s', m', h1, h2, h3, h4⟩
        obtain ⟨z, hz, hsub⟩ := hall _ h1
        cases k with
        | normal =>
          cases e <;> first | exact h2.elim | skip
          exact ihy n s' z m' a' w' hz h4 (fun s2 h2 => hnb s2 (hsub _ h2)) fun e a2 w2 h => hQ _ _ _ ((h.sub hsub).lift h3)
        | exit i =>
          cases hz
          cases e <;> first | exact h2.elim | skip
          exact hQ _ _ _ ⟨_, s', m', hsub _ (List.mem_singleton.2 rfl), h2, h3, h4⟩
        | ret =>
          cases hz
          cases e <;> first | exact h2.elim | skip
          exact hQ _ _ _ ⟨_, s', m', hsub _ (List.mem_singleton.2 rfl), h2, h3, h4⟩
        | bad => cases e <;> exact h2.elim
   | _ => exact base _

theorem landsA_sound {C : Cfg} (ht : ∀ p ∈ tb, p.1.d σ = p.2.d σ) (hora : OraOK σ β C.P C.ora) (hhk : CallOK σ β C.P C.gl C.hk) {d n : Nat} {c : Code} {t : Code} {Q : Exit → Act → World → Prop} {tgs : List Tg}
    (hl : lands tb tgs (evC C n c s) = true) (hng : ∀ tg ∈ tgs, tg.k ≠ .bad) (hg : C.gl = fun _ => none) (H : RS σ β C.gl m s a w)
    (hQ : ∀ e a' w', Landed σ β C.gl tgs e a' w' → Exit.then (t.wp C.P Q) Q e a' w') : (app d c t).wp C.P Q a w := by
  cases he : evC C n c s with
  | none => rw [he] at hl; cases hl
  | some outs =>
    rw [he] at hl
    have hall : ∀ o ∈ outs, ∃ tg ∈ tgs, meets tb tg o = true := by
      intro o ho
      have := List.all_eq_true.1 hl o ho
      simpa using List.any_eq_true.1 this
    have hk : ∀ tg (o : OK × St), meets tb tg o = true → o.1 = tg.k := by
      intro tg o h
      unfold meets at h
      simp only [Bool.and_eq_true, decide_eq_true_eq] at h
      exact h.1.1.1.1
    refine app_sound hora hhk d c n s outs m a w he H ?_ ?_
    · intro s' hs _
      obtain ⟨tg, h1, h2⟩ := hall _ hs
      exact hng tg h1 (hk _ _ h2).symm
    · rintro e a' w' ⟨k, s', m', h1, h2, h3, h4⟩
      obtain ⟨tg, g1, g2⟩ := hall _ h1
      obtain ⟨k1, m2, k2, k3⟩ := meets_land ht g2 (fun g i h => by rw [hg] at h; cases h) h4
      simp only at k1
      subst k1
      exact hQ e a' w' ⟨tg, g1, h2, s', m2, k2, k3⟩
end
end Go.Sy
