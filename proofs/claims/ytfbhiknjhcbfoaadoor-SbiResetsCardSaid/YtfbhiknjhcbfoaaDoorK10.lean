/- The evaluator for the kernel: where code lands. -/
import Derived.Test.YtfbhiknjhcbfoaaDoorK9
import Derived.Test.YtfbhiknjhcbfoaaDoorSy22
namespace Go.Sy

def landK (tb : List (X × X)) (tgs : List Tg) : KO := fun e s => if tgs.any (fun tg => meets tb tg (e, s)) then some [] else none
def okK (r : R1) : Bool := match r with
  | some [] => true
  | _ => false

theorem bindO_all {α : Type} (p : α → Bool) {l : Option (List α)} (h : okK (bindO l fun a => if p a then some [] else none) = true) : ∃ outs, l = some outs ∧ outs.all p = true := by
  cases l with
  | none => cases h
  | some l =>
    refine ⟨l, rfl, ?_⟩
    induction l with
    | nil => rfl
    | cons a l ih =>
      rw [bindO_cons] at h
      cases hp : p a with
      | false => rw [hp] at h; simp [apO, okK] at h
      | true =>
        rw [hp] at h
        simp only [if_true] at h
        rw [nil_apO] at h
        simp [hp, ih h]

theorem landK_ok {C : Cfg} {K : Kit C} {n : Nat} {c : Code} {s : St} {tb : List (X × X)} {tgs : List Tg} (h : okK ((comp C K c).v (lev C K n) s (landK tb tgs)) = true) : lands tb tgs (evC C n c s) = true := by
  rw [comp_ok] at h
  obtain ⟨outs, h1, h2⟩ := bindO_all (fun o : OK × St => tgs.any fun tg => meets tb tg o) h
  unfold lands
  rw [h1]
  exact h2

end Go.Sy
