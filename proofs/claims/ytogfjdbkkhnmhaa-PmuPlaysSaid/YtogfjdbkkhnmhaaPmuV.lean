/- Calls of the two sets by their contracts. -/
import Derived.Test.YtogfjdbkkhnmhaaPmuU
namespace Go.Sy.Pm
open Go.Proofs Go.RowKit

theorem isVars_eq {args : List SV} (h : isVars args = true) : args = [.int .u64 (.var 3), .int .u64 (.var 4)] := by
  unfold isVars at h
  split at h
  · rfl
  · cases h

theorem els_get (k : IntKind) (n j : Nat) (h : j < n) : (els k n)[j]? = some (.int k (.var (10 + j))) := by
  unfold els; simp [h]
theorem els_len (k : IntKind) (n : Nat) : (els k n).length = n := by unfold els; simp

/-- The list that came back, as the caller has it. -/
theorem setRet_ok {σ σ' : Vl} {β : Bs} {m m' : Md} {h : Hp} {pc : List X} {w w' : World} {k : IntKind} {ty : TypeId} {z : Bool} {n : Nat} {v : Value} {L : List Nat} {hp' : Hp}
    (H : RW σ β m h w) (hb : Below w.heap.size w w') (hr : RW σ' (Bs.of w) m' hp' w') (hn : n = L.length) (hel : ∀ (j x : Nat), L[j]? = some x → σ'.i (10 + j) = x)
    (hv : R σ' m' (.tup [lst0 (if z then .sl none 0 (.exact 0) else .sl (some (0, 0)) 0 (.exact 0)) n, .bool (.tt true)]) v)
    (h0 : n = 0 → z = false → hp'.t.get 0 = some (.cells [] ty none (0, 0))) (h1 : n ≠ 0 → hp'.t.get 0 = some (.cells (els k n) ty (some (0, 1)) (0, 0))) (hpc : PC σ pc) :
    ∃ u h2 pc2 m2 v2, ((some u : Option SV), h2, pc2) ∈ [setRet k ty z L h pc] ∧ PC σ pc2 ∧ m.le m2 ∧ RW σ β m2 h2 w' ∧ R σ m2 u v2 ∧ Ending.returned v = .returned v2 := by
  have hfresh : ∀ B, (Bs.of w).Pr B = none → w'.heap[B]? ≠ none → w.heap.size ≤ B := by
    intro B h1 _
    by_cases hlt : B < w.heap.size
    · exfalso
      simp only [Bs.of, hlt, if_true] at h1
      simp at h1; omega
    · omega
  unfold R at hv
  obtain ⟨vs, rfl, hvs⟩ := hv
  rw [RL_cons] at hvs
  obtain ⟨x1, r1, rfl, k1, hvs⟩ := hvs
  rw [RL_cons] at hvs
  obtain ⟨x2, r2, rfl, k2, hvs⟩ := hvs
  rw [RL_nil] at hvs; subst hvs
  unfold R at k2
  subst k2
  cases L with
  | nil =>
    have hn0 : n = 0 := hn
    subst hn0
    cases z with
    | true =>
      simp only [lst0, if_true] at k1
      unfold R at k1
      obtain ⟨C, hC, rfl⟩ := k1
      have : C = 0 := hC
      subst this
      refine ⟨_, _, _, m, _, List.mem_singleton.2 rfl, hpc, m.le_refl, H.mono hb, ?_, rfl⟩
      unfold R
      exact ⟨_, rfl, by rw [RL_cons', RL_cons', RL_nil]; unfold R; exact ⟨⟨0, rfl, rfl⟩, rfl, rfl⟩⟩
    | false =>
      simp only [lst0, Bool.false_eq_true, if_false] at k1
      unfold R at k1
      obtain ⟨B, C, hB, hC, rfl⟩ := k1
      have : C = 0 := hC
      subst this
      obtain ⟨B', O, g1, g2, g3, g4⟩ := hr.obj 0 _ (h0 rfl rfl)
      rw [hB] at g1; cases g1
      have hfr := hfresh B g4 (by rw [g2]; simp)
      refine ⟨_, _, _, m.new B, _, List.mem_singleton.2 rfl, hpc, m.le_new _, H.add hb hfr g2 ?_, ?_, rfl⟩
      · obtain ⟨vs, ex, F, q1, q2, q3, q4⟩ := g3
        rw [RL_nil] at q2; subst q2
        exact ⟨[], ex, F, q1, by rw [RL_nil], q3, q4⟩
      · have e1 : (m.new B).ρ[h.nx]? = some B := by simp [Md.new, ← H.lenρ]
        unfold R
        exact ⟨_, rfl, by rw [RL_cons', RL_cons', RL_nil]; unfold R; exact ⟨⟨B, 0, e1, rfl, rfl⟩, rfl, rfl⟩⟩
  | cons y L =>
    have hnp : n ≠ 0 := by rw [hn]; simp
    have hlst : lst0 (if z then .sl none 0 (.exact 0) else .sl (some (0, 0)) 0 (.exact 0)) n = lst n := by
      cases n with
      | zero => exact absurd rfl hnp
      | succ n => rfl
    rw [hlst] at k1
    unfold lst at k1
    unfold R at k1
    obtain ⟨B, C, hB, ⟨hC, hle⟩, rfl⟩ := k1
    obtain ⟨B', O, g1, g2, g3, g4⟩ := hr.obj 0 _ (h1 hnp)
    rw [hB] at g1; cases g1
    have hfr := hfresh B g4 (by rw [g2]; simp)
    have Hk := H.addk C
    refine ⟨_, _, _, Md.new ⟨m.ρ, m.κ ++ [C]⟩ B, _, List.mem_singleton.2 rfl, hpc, (⟨⟨[B], rfl⟩, ⟨[C], rfl⟩⟩ : m.le _), Hk.add hb hfr g2 ?_, ?_, rfl⟩
    · obtain ⟨vs, ex, F, q1, q2, q3, q4⟩ := g3
      refine ⟨vs, ex, F, q1, ?_, ?_, ?_⟩
      · have hl := RL_length q2
        rw [els_len] at hl
        refine RL_of_get (by rw [hl, hn]; simp) fun i x u hx hu => ?_
        have hi : i < n := by
          have := (List.getElem?_eq_some_iff.1 hu).1
          omega
        obtain ⟨u', hu', hru⟩ := RL_get q2 i _ (els_get k n i hi)
        rw [hu] at hu'; cases hu'
        unfold R at hru
        rw [List.getElem?_map] at hx
        obtain ⟨q, hq, rfl⟩ := Option.map_eq_some_iff.1 hx
        unfold R
        rw [hru]
        show Value.int k (σ'.i (10 + i)) = _
        rw [hel i q hq]; rfl
      · rcases q3 with q3 | ⟨_, q3⟩
        · exact .inl q3
        · exact .inr ⟨rfl, q3⟩
      · obtain ⟨C', c1, c2⟩ := q4
        rw [hC] at c1; cases c1
        exact ⟨C, by simp [Md.new, ← H.lenκ], c2⟩
    · have e1 : (Md.new ⟨m.ρ, m.κ ++ [C]⟩ B).ρ[h.nx]? = some B := by simp [Md.new, ← H.lenρ]
      have e2 : (Md.new ⟨m.ρ, m.κ ++ [C]⟩ B).κ[h.nk]? = some C := by simp [Md.new, ← H.lenκ]
      unfold R
      exact ⟨_, rfl, by rw [RL_cons', RL_cons', RL_nil]; unfold R; exact ⟨⟨B, C, e1, ⟨e2, by rw [← hn]; exact hle⟩, by rw [← hn]⟩, rfl, rfl⟩⟩

theorem pS_get (n : Nat) (h : n ≠ 0) : ((pS n).stN (nkS n)).hp.t.get 0 = some (.cells (els .u64 n) 27 (some (0, 1)) (0, 0)) := by
  cases n with
  | zero => exact absurd rfl h
  | succ n => rfl
theorem pT_get (n : Nat) (h : n ≠ 0) : ((pT n).stN (nkS n)).hp.t.get 0 = some (.cells (els .i64 n) 3 (some (0, 1)) (0, 0)) := by
  cases n with
  | zero => exact absurd rfl h
  | succ n => rfl

section
variable {σ : Vl} {β : Bs} {base mask : Nat}

theorem vars_vals {m : Md} {vals : List Value} (h3 : σ.i 3 = base) (h4 : σ.i 4 = mask) (hv : RL σ m [.int .u64 (.var 3), .int .u64 (.var 4)] vals) : vals = [.int .u64 base, .int .u64 mask] := by
  rw [RL_cons] at hv
  obtain ⟨x1, r1, rfl, k1, hv⟩ := hv
  rw [RL_cons] at hv
  obtain ⟨x2, r2, rfl, k2, hv⟩ := hv
  rw [RL_nil] at hv; subst hv
  unfold R at k1 k2
  rw [k1, k2, X.I, X.I]
  simp only [X.d, h3, h4]

theorem hkSet_ok (hb : base < 18446744073709551616) (hm : mask < 18446744073709551616) (h3 : σ.i 3 = base) (h4 : σ.i 4 = mask) (hg : GoodA base mask 64) : CallOK σ β PP (fun _ => none) (hkSet (SA base mask 64)) := by
  intro f args h pc rets he m w vals H hv hp _ _
  unfold hkSet at he
  split at he
  · rename_i hf
    subst hf
    split at he
    · rename_i ha
      cases he
      rw [isVars_eq ha] at hv
      rw [vars_vals h3 h4 hv]
      refine (setS w base mask hb hm).mono ?_
      rintro e w' ⟨hbel, h | ⟨hng, _⟩⟩
      · obtain ⟨_, σ', m', n, v, hr, hn, h6, hel, rfl, hrv⟩ := h
        exact setRet_ok H hbel hr hn hel hrv (fun _ h => nomatch h) (fun h => pS_get n h) hp
      · exact absurd hg hng
    · cases he
  · split at he
    · rename_i hf
      subst hf
      split at he
      · rename_i ha
        cases he
        rw [isVars_eq ha] at hv
        rw [vars_vals h3 h4 hv]
        refine (setT w base mask hb hm).mono ?_
        rintro e w' ⟨hbel, h | ⟨hng, _⟩⟩
        · obtain ⟨_, σ', m', n, v, hr, hn, h6, hel, rfl, hrv⟩ := h
          exact setRet_ok H hbel hr hn hel hrv (fun h _ => by subst h; rfl) (fun h => pT_get n h) hp
        · exact absurd hg hng
      · cases he
    · cases he

theorem hkBad_ok (hb : base < 18446744073709551616) (hm : mask < 18446744073709551616) (h3 : σ.i 3 = base) (h4 : σ.i 4 = mask) (hg : ¬ GoodA base mask 64) : CallOK σ β PP (fun _ => none) hkBad := by
  intro f args h pc rets he m w vals H hv hp _ _
  unfold hkBad at he
  have key : ∀ e w', Below w.heap.size w w' → e = Ending.returned (.tuple #[.slice none 0 0, .bool false]) →
      ∃ v h' pc' m' v', ((some v : Option SV), h', pc') ∈ [((some (.tup [.sl none 0 (.exact 0), .bool (.tt false)]) : Option SV), h, pc)] ∧ PC σ pc' ∧ m.le m' ∧ RW σ β m' h' w' ∧ R σ m' v v' ∧ e = .returned v' := by
    intro e w' hbel he
    refine ⟨_, _, _, m, _, List.mem_singleton.2 rfl, hp, m.le_refl, H.mono hbel, ?_, he⟩
    unfold R
    exact ⟨_, rfl, by rw [RL_cons', RL_cons', RL_nil]; unfold R; exact ⟨⟨0, rfl, rfl⟩, rfl, rfl⟩⟩
  split at he
  · rename_i hf
    split at he
    · cases he
      rw [vars_vals h3 h4 hv]
      rcases hf with rfl | rfl
      · refine (setS w base mask hb hm).mono ?_
        rintro e w' ⟨hbel, ⟨hg', _⟩ | ⟨_, he⟩⟩
        · exact absurd hg' hg
        · exact key e w' hbel he
      · refine (setT w base mask hb hm).mono ?_
        rintro e w' ⟨hbel, ⟨hg', _⟩ | ⟨_, he⟩⟩
        · exact absurd hg' hg
        · exact key e w' hbel he
    · cases he
  · cases he
end

end Go.Sy.Pm
