/- The evaluator: single cells of objects that are known. -/
import Derived.Test.YtfbhiknjhcbfoaaDoorK12
namespace Go.Sy
section
variable {σ : Vl} {β : Bs} {m : Md} {h : Hp} {w : World}

theorem RW.cellAt (H : RW σ β m h w) {b B i : Nat} {cs : List SV} {el : TypeId} {x : SV} (hb : objCells h b = some (cs, el, none, (0, 0))) (hB : m.ρ[b]? = some B) (hx : cs[i]? = some x) :
    ∃ v, w.cell? ⟨B, i, none⟩ = some v ∧ R σ m x v ∧ w.frozen? ⟨B, i, none⟩ = false := by
  obtain ⟨vs, ex, F, hg, hheap, hr, hF, hsl⟩ := H.cells hb hB
  obtain ⟨v, hv, hrv⟩ := RL_get hr i x hx
  have hF' : F = (0, 0) := by
    rcases hF with rfl | ⟨h, _⟩
    · rfl
    · cases h
  subst hF'
  refine ⟨v, ?_, hrv, ?_⟩
  · rw [cell_at hheap, List.getElem?_toArray, List.getElem?_append_left (List.getElem?_eq_some_iff.1 hv).1]; exact hv
  · unfold World.frozen?
    rw [hheap]; simp

theorem setCell_turned (w : World) (B i : Nat) (v : Value) (cur : Array Value) (el : TypeId) (F : Nat × Nat) (hg : w.heap[B]? = some (.cells cur el F)) :
    Turned B (.cells (cur.setIfInBounds i v) el F) w (w.setCell ⟨B, i, none⟩ v) where
  at_ := by
    simp only [World.setCell, Array.getElem?_modify, hg, if_true, Option.map_some]
    simp
  other := fun b hb => by
    simp only [World.setCell, Array.getElem?_modify]
    rw [if_neg (by omega)]
  size := by simp [World.setCell]
  tape := rfl
  os := rfl
  out := rfl

theorem RW.setC (H : RW σ β m h w) {b B i : Nat} {cs : List SV} {el : TypeId} {x : SV} {v : Value} (hb : objCells h b = some (cs, el, none, (0, 0))) (hB : m.ρ[b]? = some B) (hi : i < cs.length) (hx : R σ m x v) :
    RW σ β m (h.put b (.cells (cs.set i x) el none (0, 0))) (w.setCell ⟨B, i, none⟩ v) := by
  obtain ⟨vs, ex, F, hg, hheap, hr, hF, hsl⟩ := H.cells hb hB
  have hlen := RL_length hr
  refine H.put hg hB ?_ (setCell_turned w B i v _ el F hheap)
  refine ⟨vs.set i v, ex, F, ?_, RL_set hr i hx, by simpa using hF, by simpa using hsl⟩
  congr 1
  apply Array.ext'
  simp [hlen, hi]

theorem objCells_put {b : Nat} {cs : List SV} {el : TypeId} {sl : Option (Nat × Nat)} {fz : Nat × Nat} : objCells (h.put b (.cells cs el sl fz)) b = some (cs, el, sl, fz) := by
  unfold objCells Hp.put
  simp [T.get_set]

end

/-- Calls, turned. -/
theorem evFK_ok (C : Cfg) (K : Kit C) (n : Nat) : CallOKK (evFK C K (lev C K n)) (evF C.P C.mg C.hk (evC C n)) := by
  have ih := comp_ok C K n
  intro f args h pc k
  unfold evF
  show Option.rec (motive := fun _ => R1) _ _ (C.hk f args h pc) = _
  cases C.hk f args h pc with
  | some r => rfl
  | none =>
    show runFK C (lev C K n) args h pc k (fkOf C K C.P.funcs[f]?) = _
    cases hf : C.P.funcs[f]? with
    | none => rfl
    | some fn =>
      simp only [fkOf]
      cases hb : fn.body with
      | none => rfl
      | some c =>
        simp only [runFK, fkRun, fcN_eq, argsK_eq]
        cases hm : C.mg with
        | false =>
          simp only
          rw [ih, bindO_congr _ (endK_eq C K k), ← bindO_assoc]
          congr 1
          cases bindO (evC C n c _) (evEnd C.P fn) <;> rfl
        | true =>
          simp only
          rw [ih, bindO_retO]

/-- A call, each way of it handing back what it should. -/
noncomputable def callK {C : Cfg} (K : Kit C) (n : Nat) (f : FuncId) (args : List SV) (pc : List X) (vp : SV → Bool) : Bool :=
  okK (evFK C K (lev C K n) f args ⟨.nil, 0, 0⟩ pc fun r => match r.1 with
    | some v => if vp v then some [] else none
    | none => none)
theorem callK_ok {C : Cfg} {K : Kit C} {n : Nat} {f : FuncId} {args : List SV} {pc : List X} {vp : SV → Bool} (h : callK K n f args pc vp = true) : landsR vp (evF C.P C.mg C.hk (evC C n) f args ⟨.nil, 0, 0⟩ pc) = true := by
  unfold callK at h
  rw [evFK_ok] at h
  have h2 := bindO_all (fun r : Ret => match r.1 with | some v => vp v | none => false) (l := evF C.P C.mg C.hk (evC C n) f args ⟨.nil, 0, 0⟩ pc) (by
    rw [bindO_congr (g := fun r : Ret => match r.1 with | some v => if vp v then some [] else none | none => none) _ (fun r => by
      obtain ⟨v, q⟩ := r
      cases v <;> rfl)]
    exact h)
  obtain ⟨outs, h1, h3⟩ := h2
  unfold landsR
  rw [h1]; exact h3

theorem callK_calls {σ : Vl} {C : Cfg} {K : Kit C} {w : World} (hora : OraOK σ (Bs.of w) C.P C.ora) (hhk : CallOK σ (Bs.of w) C.P C.gl C.hk) (hg : C.gl = fun _ => none) {n : Nat} {f : FuncId} {args : List SV} {pc : List X} {vp : SV → Bool}
    (h : callK K n f args pc vp = true) {vals : List Value} (hv : RL σ ⟨[], []⟩ args vals) (hp : PC σ pc) :
    Calls C.P f vals.toArray w fun e w' => RowKit.Below w.heap.size w w' ∧ ∃ (v : SV) (h' : Hp) (m' : Md) (v' : Value), vp v = true ∧ RW σ (Bs.of w) m' h' w' ∧ R σ m' v v' ∧ e = .returned v' := by
  refine (landsR_sound hora hhk (callK_ok h) RW_empty hv hp (fun g i hgi => by rw [hg] at hgi; cases hgi)).mono ?_
  rintro e w' ⟨v, h', m', v', h1, h2, h3, h4⟩
  exact ⟨h2.below, v, h', m', v', h1, h2, h3, h4⟩
end Go.Sy
