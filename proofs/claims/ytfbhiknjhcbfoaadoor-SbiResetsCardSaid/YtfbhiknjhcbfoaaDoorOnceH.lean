/- sync.Once in one goroutine, as the evaluator meets it: it is so. -/
import Derived.Test.YtfbhiknjhcbfoaaDoorOnceK
import Derived.Test.YtfbhiknjhcbfoaaDoorOnceD
namespace Go.Sy
open Go.Proofs Go.Proofs.YtfbhiknjhcbfoaaDoor

theorem hkOnce_ok {σ : Vl} {β : Bs} {gl : Nat → Option Nat} {ev : Caller} (hev : CallOK σ β Tryd.prog gl ev) : CallOK σ β Tryd.prog gl (hkOnce ev) := by
  intro f args h pc rets he m w vals H hv hp hgl _
  unfold hkOnce at he
  split at he
  · rename_i hf
    subst hf
    split at he
    · rename_i b o g A B C
      split at he
      · rename_i hg
        subst hg
        rw [RL_cons] at hv
        obtain ⟨v1, r1, rfl, k1, hv⟩ := hv
        rw [RL_cons] at hv
        obtain ⟨v2, r2, rfl, k2, hv⟩ := hv
        rw [RL_nil] at hv; subst hv
        unfold R at k1 k2
        obtain ⟨Bk, hB, rfl⟩ := k1
        obtain ⟨va, vb, rfl, q1, q2⟩ := k2
        rw [RL_nil] at q1; subst q1
        have q2' := q2
        rw [RL_cons] at q2
        obtain ⟨A', s1, rfl, kA, q2⟩ := q2
        rw [RL_cons] at q2
        obtain ⟨B', s2, rfl, kB, q2⟩ := q2
        rw [RL_cons] at q2
        obtain ⟨C', s3, rfl, kC, q2⟩ := q2
        rw [RL_nil] at q2; subst q2
        unfold onceDo at he
        split at he
        · rename_i cs el hcs
          have hob := plainObj_eq hcs
          split at he
          · rename_i d hd
            have hd' := litAt_eq hd
            obtain ⟨u0, c0, ru0, z0⟩ := H.cellAt hob hB hd'
            unfold R at ru0
            subst ru0
            have hol : o < cs.length := (List.getElem?_eq_some_iff.1 hd').1
            split at he
            · rename_i hd0
              subst hd0
              split at he
              · rename_i hs
                have hs' := litIs_eq hs
                obtain ⟨u1, c1, ru1, z1⟩ := H.cellAt hob hB hs'
                unfold R at ru1
                subst ru1
                have hsl : o + 1 < cs.length := (List.getElem?_eq_some_iff.1 hs').1
                split at he
                · rename_i h2 pc2 hun
                  have hun' := isUnit_eq hun
                  split at he
                  · rename_i cs2 el2 hcs2
                    have hob2 := plainObj_eq hcs2
                    split at he
                    · rename_i hl2
                      rw [Bool.and_eq_true] at hl2
                      have e0 := litIs_eq hl2.1
                      have e1 := litIs_eq hl2.2
                      cases he
                      have H1 := H.setC hob hB hsl (x := .int .i32 (.lit 1)) (v := .int .i32 1) (by unfold R; rfl)
                      have hc := hev 50 [A, B, C] _ pc _ hun' m _ [A', B', C'] H1 q2' hp hgl (fun h' pc' hm => by simp at hm)
                      refine (on_do Bk o A' B' C' w (fun w' => PC σ pc2 ∧ ∃ m', m.le m' ∧ RW σ β m' h2 w') c0 c1 z1 (hc.mono ?_) ?_).mono ?_
                      · rintro e w' ⟨v, h', pc', m', v', hm, g2, g3, g4, g5, rfl⟩
                        cases List.mem_singleton.1 hm
                        unfold R at g5
                        obtain ⟨us, rfl, hus⟩ := g5
                        rw [RL_nil] at hus; subst hus
                        exact ⟨rfl, g2, m', g3, g4⟩
                      · rintro w' ⟨_, m', g3, g4⟩
                        obtain ⟨x0, y0, r0, t0⟩ := g4.cellAt hob2 (g3.le_ρ hB) e0
                        obtain ⟨x1, y1, r1, t1⟩ := g4.cellAt hob2 (g3.le_ρ hB) e1
                        unfold R at r0 r1
                        subst r0; subst r1
                        exact ⟨y0, y1, t0, t1⟩
                      · rintro e w' ⟨rfl, w1, ⟨g2, m', g3, g4⟩, rfl⟩
                        have g5 := g4.drew.setC hob2 (g3.le_ρ hB) (List.getElem?_eq_some_iff.1 e0).1 (x := .int .u32 (.lit 1)) (v := .int .u32 1) (by unfold R; rfl)
                        have g6 := g5.setC objCells_put (g3.le_ρ hB) (i := o + 1) (by rw [List.length_set]; exact (List.getElem?_eq_some_iff.1 e1).1) (x := .int .i32 (.lit 0)) (v := .int .i32 0) (by unfold R; rfl)
                        exact ⟨_, _, _, m', _, List.mem_singleton.2 rfl, g2, g3, g6, by unfold R; exact ⟨[], rfl, RL_nil.2 rfl⟩, rfl⟩
                    · cases he
                  · cases he
                · cases he
              · cases he
            · rename_i hd0
              cases he
              refine (on_done ⟨Bk, o, none⟩ _ hd0 _ w c0).mono ?_
              rintro e w' ⟨rfl, rfl⟩
              exact ⟨_, _, _, m, _, List.mem_singleton.2 rfl, hp, m.le_refl, H, by unfold R; exact ⟨[], rfl, RL_nil.2 rfl⟩, rfl⟩
          · cases he
        · cases he
      · cases he
    · cases he
  · cases he

end Go.Sy
