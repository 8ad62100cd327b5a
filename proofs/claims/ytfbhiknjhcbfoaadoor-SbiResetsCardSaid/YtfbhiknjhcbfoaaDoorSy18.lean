/- A symbolic evaluator for the model's programs: code and calls. -/
import Derived.Test.YtfbhiknjhcbfoaaDoorSy17
namespace Go.Sy

def okE : OK → Exit → Prop
  | .normal, .normal => True
  | .exit i, .exit j => i = j
  | .ret, .ret => True
  | _, _ => False

theorem okE_normal {k : OK} (h : okE k .normal) : k = .normal := by cases k <;> first | rfl | exact h.elim
theorem okE_exit {k : OK} {i : Nat} (h : okE k (.exit i)) : k = .exit i := by cases k <;> first | exact h.elim | (have : _ = i := h; rw [this])
theorem okE_ret {k : OK} (h : okE k .ret) : k = .ret := by cases k <;> first | rfl | exact h.elim

section
variable {σ : Vl} {β : Bs} {P : Program} {gl : Nat → Option Nat} {m : Md} {s : St} {a : Act} {w : World}

/-- It ends in one of these ways. -/
def Post (σ : Vl) (β : Bs) (gl : Nat → Option Nat) (m : Md) (outs : Outs) (e : Exit) (a : Act) (w : World) : Prop :=
  ∃ k s m', (k, s) ∈ outs ∧ okE k e ∧ m.le m' ∧ RS σ β gl m' s a w

theorem Post.sub {m : Md} {o o' : Outs} {e : Exit} (h : Post σ β gl m o e a w) (hs : ∀ x ∈ o, x ∈ o') : Post σ β gl m o' e a w := by
  obtain ⟨k, s, m', h1, h2⟩ := h
  exact ⟨k, s, m', hs _ h1, h2⟩

theorem Post.cov {m : Md} {o o' : Outs} {e : Exit} (h : Post σ β gl m o e a w) (hs : Cov σ gl o o') : Post σ β gl m o' e a w := by
  obtain ⟨k, s, m', h1, h2, h3, h4⟩ := h
  obtain ⟨s', m2, g1, g2, g3⟩ := (hs k s h1 h4.pc).2 β m' a w h4
  exact ⟨k, s', m2, g1, h2, h3.trans g2, g3⟩

theorem Post.lift {m m0 : Md} {o : Outs} {e : Exit} (h : Post σ β gl m o e a w) (hle : m0.le m) : Post σ β gl m0 o e a w := by
  obtain ⟨k, s, m', h1, h2, h3, h4⟩ := h
  exact ⟨k, s, m', h1, h2, hle.trans h3, h4⟩

theorem RS.world {w' : World} (H : RS σ β gl m s a w) (h1 : w'.heap = w.heap) (h2 : w'.tape = w.tape) (h3 : w'.os = w.os) (h4 : w'.output = w.output) : RS σ β gl m s a w' where
  tm := H.tm
  nt := H.nt
  hp := ⟨H.hp.lenρ, H.hp.lenκ, fun i o hi => by rw [h1]; exact H.hp.obj i o hi, H.hp.inj, fun b o hb => by rw [h1]; exact H.hp.prot b o hb, h2.trans H.hp.tape, h3.trans H.hp.os, h4.trans H.hp.out, by rw [h1]; exact H.hp.size⟩
  pc := H.pc
  de := H.de
  gl := H.gl

/-! ## results -/

def resSem (tm : Array Value) : ResultVar → Sem Value
  | .tmp t => pure (tm.getD t undef)
  | .cell x t => do loadVar t (← asAddr (tm.getD x undef))

theorem evResult_sound (H : RS σ β gl m s a w) {r : ResultVar} {v : SV} (he : evResult P s r = some v) :
    ∃ v', R σ m v v' ∧ (resSem a.tmps r).run P w = .ok v' w := by
  cases r with
  | tmp t =>
    simp only [evResult, Option.some.injEq] at he
    subst he
    exact ⟨_, evOperand_R H (.tmp t), rfl⟩
  | cell x t =>
    simp only [evResult] at he
    have hr := evOperand_R H (.tmp x)
    obtain ⟨v', h1, h2⟩ := evLoad_sound (P := P) he hr w H.hp
    refine ⟨v', h1, ?_⟩
    have hx : evOperand gl s.tm (.tmp x) = slot s.tm x := rfl
    rw [hx] at hr
    unfold evLoad at he
    split at he
    · rename_i b o hb
      rw [hb] at hr
      unfold R at hr
      obtain ⟨B, hB, e⟩ := hr
      simp only [Act.eval] at e h2
      rw [e] at h2
      simp only [resSem, e]
      simpa [Instr.loadAt, Instr.sureAddr, asAddr] using h2
    · cases he

theorem results_eq (fn : Func) (tm : Array Value) : results fn tm = (do
    let vs ← fn.results.toList.toArray.mapM (resSem tm)
    pure (if h : vs.size = 1 then vs[0] else .tuple vs)) := by
  unfold results
  simp only [Array.toArray_toList]
  congr 2

theorem evResults_sound (H : RS σ β gl m s a w) {fn : Func} {v : SV} (he : evResults P fn s = some v) :
    ∃ v', R σ m v v' ∧ (results fn a.tmps).run P w = .ok v' w := by
  unfold evResults at he
  rw [results_eq]
  split at he
  · rename_i r hr
    obtain ⟨v', h1, h2⟩ := evResult_sound (P := P) H he
    refine ⟨v', h1, ?_⟩
    rw [hr]
    simp [h2]
  · rename_i r q hr
    split at he
    · rename_i x y hx hy
      cases he
      obtain ⟨v1, h1, h2⟩ := evResult_sound (P := P) H hx
      obtain ⟨v2, g1, g2⟩ := evResult_sound (P := P) H hy
      refine ⟨.tuple #[v1, v2], ?_, ?_⟩
      · unfold R; exact ⟨[v1, v2], rfl, by simp [RL_cons', RL_nil, h1, g1]⟩
      · rw [hr]
        simp [h2, g2]
    · cases he
  · rename_i r q p hr
    split at he
    · rename_i x y z hx hy hz
      cases he
      obtain ⟨v1, h1, h2⟩ := evResult_sound (P := P) H hx
      obtain ⟨v2, g1, g2⟩ := evResult_sound (P := P) H hy
      obtain ⟨v3, k1, k2⟩ := evResult_sound (P := P) H hz
      refine ⟨.tuple #[v1, v2, v3], ?_, ?_⟩
      · unfold R; exact ⟨[v1, v2, v3], rfl, by simp [RL_cons', RL_nil, h1, g1, k1]⟩
      · rw [hr]
        simp [h2, g2, k2]
    · cases he
  · rename_i hr
    cases he
    refine ⟨.tuple #[], ?_, ?_⟩
    · unfold R; exact ⟨[], rfl, RL_nil.2 rfl⟩
    · rw [hr]; simp
  · cases he

end

end Go.Sy
