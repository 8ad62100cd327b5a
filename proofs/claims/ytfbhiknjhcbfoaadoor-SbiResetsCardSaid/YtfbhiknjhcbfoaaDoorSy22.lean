/- A symbolic evaluator for the model's programs: where a piece of code lands. -/
import Derived.Test.YtfbhiknjhcbfoaaDoorSy21
namespace Go.Sy

/-- One way to land: how it ends, the pattern, the values of its variables, and what is known by then. -/
structure Tg where
  k : OK
  p : Pat
  rd : St → Sb
  at_ : List X
  nk : Nat := 0

def Pat.stN (p : Pat) (nk : Nat) : St := { tm := tmT p.tm Tm.nil, nt := p.nt, hp := ⟨mkT p.os 0 .nil, p.os.length, nk⟩, pc := p.pc }
def Pat.st0 (p : Pat) : St := p.stN 0

def meets (tb : List (X × X)) (tg : Tg) (o : OK × St) : Bool :=
  let θ := tg.rd o.2
  decide (o.1 = tg.k) && Nat.beq θ.π.length tg.p.os.length && Nat.beq θ.κ.length tg.nk && fits tb θ tg.p o.2 && tg.at_.all fun c => o.2.pc.contains c

def lands (tb : List (X × X)) (tgs : List Tg) : Option Outs → Bool
  | some l => l.all fun o => tgs.any fun tg => meets tb tg o
  | none => false

/-- It has landed. -/
def Landed (σ : Vl) (β : Bs) (gl : Nat → Option Nat) (tgs : List Tg) (e : Exit) (a : Act) (w : World) : Prop :=
  ∃ tg ∈ tgs, okE tg.k e ∧ ∃ s m, RS (σ.sub (tg.rd s)) β gl m (tg.p.stN tg.nk) a w ∧ PC σ tg.at_

section
variable {σ : Vl} {β : Bs} {tb : List (X × X)} {m : Md} {s : St} {a : Act} {w : World}

theorem meets_land {gl : Nat → Option Nat} (ht : ∀ p ∈ tb, p.1.d σ = p.2.d σ) {tg : Tg} {o : OK × St} (h : meets tb tg o = true) (hg : ∀ g i, gl g = some i → (tg.rd o.2).π[i]? = some i) (H : RS σ β gl m o.2 a w) :
    o.1 = tg.k ∧ ∃ m', RS (σ.sub (tg.rd o.2)) β gl m' (tg.p.stN tg.nk) a w ∧ PC σ tg.at_ := by
  unfold meets at h
  simp only [Bool.and_eq_true, decide_eq_true_eq] at h
  obtain ⟨⟨⟨⟨h1, h2⟩, h3⟩, h4⟩, h5⟩ := h
  refine ⟨h1, m.sub (tg.rd o.2), ?_, fun c hc => H.pc c ?_⟩
  · have := fits_RS ht h4 hg H
    have e : tg.p.st (tg.rd o.2) = tg.p.stN tg.nk := by
      have e1 := Nat.eq_of_beq_eq_true h2
      have e2 := Nat.eq_of_beq_eq_true h3
      simp [Pat.st, Pat.stN, e1, e2]
    rw [← e]; exact this
  · simpa using List.all_eq_true.1 h5 c hc

theorem lands_sound {C : Cfg} (ht : ∀ p ∈ tb, p.1.d σ = p.2.d σ) (hora : OraOK σ β C.P C.ora) (hhk : CallOK σ β C.P C.gl C.hk) {n : Nat} {c : Code} {tgs : List Tg}
    (hl : lands tb tgs (evC C n c s) = true) (hng : ∀ tg ∈ tgs, tg.k ≠ .bad) (hg : C.gl = fun _ => none) (H : RS σ β C.gl m s a w) : c.wp C.P (Landed σ β C.gl tgs) a w := by
  cases he : evC C n c s with
  | none => rw [he] at hl; cases hl
  | some outs =>
    rw [he] at hl
    have hall : ∀ o ∈ outs, ∃ tg ∈ tgs, meets tb tg o = true := by
      intro o ho
      have := List.all_eq_true.1 hl o ho
      simpa using List.any_eq_true.1 this
    have hk : ∀ tg (o : OK × St), meets tb tg o = true → o.1 = tg.k := by
      intro tg o h
      unfold meets at h
      simp only [Bool.and_eq_true, decide_eq_true_eq] at h
      exact h.1.1.1.1
    refine (evC_sound hora hhk n c s outs m a w _ he H ?_ ?_).1
    · intro s' hs _
      obtain ⟨tg, h1, h2⟩ := hall _ hs
      exact hng tg h1 (hk _ _ h2).symm
    · rintro e a' w' ⟨k, s', m', h1, h2, h3, h4⟩
      obtain ⟨tg, g1, g2⟩ := hall _ h1
      obtain ⟨k1, m2, k2, k3⟩ := meets_land ht g2 (fun g i h => by rw [hg] at h; cases h) h4
      simp only at k1
      subst k1
      exact ⟨tg, g1, h2, s', m2, k2, k3⟩

/-! ## calls -/

/-- A call that lands: the value of a pattern, the memory left aside. -/
def landsR (vp : SV → Bool) : Option (List Ret) → Bool
  | some l => l.all fun r => match r.1 with
    | some v => vp v
    | none => false
  | none => false

theorem landsR_sound {C : Cfg} (hora : OraOK σ β C.P C.ora) (hhk : CallOK σ β C.P C.gl C.hk) {n : Nat} {f : FuncId} {args : List SV} {h : Hp} {pc : List X} {vp : SV → Bool}
    (hl : landsR vp (evF C.P C.mg C.hk (evC C n) f args h pc) = true) {vals : List Value} (H : RW σ β m h w) (hv : RL σ m args vals) (hp : PC σ pc) (hg : GL C.gl m) :
    Calls C.P f vals.toArray w fun e w' => ∃ v h' m' v', vp v = true ∧ RW σ β m' h' w' ∧ R σ m' v v' ∧ e = .returned v' := by
  cases he : evF C.P C.mg C.hk (evC C n) f args h pc with
  | none => rw [he] at hl; cases hl
  | some rets =>
    rw [he] at hl
    have hall : ∀ r ∈ rets, ∃ v, r.1 = some v ∧ vp v = true := by
      intro r hr
      have := List.all_eq_true.1 hl r hr
      split at this
      · rename_i v hv; exact ⟨v, hv, this⟩
      · cases this
    have hev : EvOK σ β C.P C.gl (evC C n) := fun c s outs m a w he H hnb => (evC_sound hora hhk n c s outs m a w _ he H hnb fun _ _ _ h => h).1
    refine (evF_ok hev hhk f args h pc rets he m w vals H hv hp hg ?_).mono ?_
    · intro h' pc' hm
      obtain ⟨v, h1, _⟩ := hall _ hm
      cases h1
    · rintro e w' ⟨v, h', pc', m', v', g1, g2, g3, g4, g5, rfl⟩
      obtain ⟨u, h1, h2⟩ := hall _ g1
      cases h1
      exact ⟨v, h', m', v', h2, g4, g5, rfl⟩

/-! ## memory of others grows -/

theorem RW.mono {h : Hp} {w' : World} (H : RW σ β m h w) (hb : RowKit.Below w.heap.size w w') : RW σ β m h w' where
  lenρ := H.lenρ
  lenκ := H.lenκ
  obj := fun i o hi => by
    obtain ⟨B, O, k1, k2, k3, k4⟩ := H.obj i o hi
    have hlt : B < w.heap.size := (Array.getElem?_eq_some_iff.1 k2).1
    exact ⟨B, O, k1, by rw [hb.block B hlt]; exact k2, k3, k4⟩
  inj := H.inj
  prot := fun b o hb' => by
    have k2 := H.prot b o hb'
    have hlt : b < w.heap.size := (Array.getElem?_eq_some_iff.1 k2).1
    rw [hb.block b hlt]; exact k2
  tape := hb.tape.trans H.tape
  os := hb.os.trans H.os
  out := hb.output.trans H.out
  size := Nat.le_trans H.size hb.size

end

end Go.Sy
