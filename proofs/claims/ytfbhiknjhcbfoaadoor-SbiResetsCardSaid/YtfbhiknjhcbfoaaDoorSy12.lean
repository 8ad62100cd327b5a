/- A symbolic evaluator for the model's programs: append. -/
import Derived.Test.YtfbhiknjhcbfoaaDoorSy11
namespace Go.Sy

section
variable {σ : Vl} {β : Bs} {P : Program} {m : Md} {h : Hp} {w : World}

def isIntD : TypeDesc → Bool
  | .int _ => true
  | _ => false

theorem growBy_le (n : Nat) : ∀ (r c : Nat), Builtin.growBy n r c ≤ 2 ^ r * (c + 768)
  | 0, c => by simp [Builtin.growBy]
  | r + 1, c => by
    unfold Builtin.growBy
    have h1 : 1 ≤ 2 ^ r := Nat.one_le_two_pow
    split
    · rw [Nat.pow_succ]
      have : c + 768 ≤ 2 ^ r * 2 * (c + 768) := Nat.le_mul_of_pos_left _ (by omega)
      omega
    · have ih := growBy_le n r (c + (c + 768) / 4)
      have h2 : c + (c + 768) / 4 + 768 ≤ 2 * (c + 768) := by omega
      have h3 : 2 ^ r * (c + (c + 768) / 4 + 768) ≤ 2 ^ r * (2 * (c + 768)) := Nat.mul_le_mul_left _ h2
      exact Nat.le_trans ih (Nat.le_trans h3 (Nat.le_of_eq (by rw [Nat.pow_succ, Nat.mul_assoc])))

theorem growBy4 (need cap : Nat) : Builtin.growBy need 4 cap ≤ 16 * (cap + 768) := growBy_le need 4 cap

theorem nextcap_num (need cap g : Nat) (h : cap < need) (hn : need ≤ 1000000) (hg : g ≤ 16 * (cap + 768)) : (if need > 2 * cap then need else if cap < 256 then 2 * cap else g) ≤ 16012288 := by
  have h1 : cap + 768 ≤ 1000768 := by omega
  have h2 : 16 * (cap + 768) ≤ 16 * 1000768 := Nat.mul_le_mul_left 16 h1
  have h3 : (16 : Nat) * 1000768 = 16012288 := by decide
  rw [h3] at h2
  split
  · exact Nat.le_trans hn (by decide)
  · split
    · exact Nat.le_trans (by omega : 2 * cap ≤ 2 * 1000000) (by decide)
    · exact Nat.le_trans hg h2

theorem nextcap_le (need cap : Nat) (h : cap < need) (hn : need ≤ 1000000) : Builtin.nextslicecap need cap ≤ 16012288 :=
  nextcap_num need cap _ h hn (growBy4 need cap)

theorem append_fits {sT xT ty elem size n len cap : Nat} {d : TypeDesc} {base : Option Addr} {x' : Value} {new : List Value} (hu : P.underlying sT = some (.slice elem)) (hs : tySize P elem = some size)
    (hux : P.underlying xT = some d) (hd : isIntD d = false) (hln : (Builtin.lenOf x').run P w = .ok n w) (hnew : (Builtin.firstCells size n x').run P w = .ok new.toArray w) (hfit : len + n ≤ cap)
    {w' : World} (hst : ∀ a, base = some a → (storeCells (a.add (len * size)) new 0).run P w = .ok () w') (hnb : base = none → w' = w) :
    (Builtin.append_ #[sT, xT] ty #[.slice base len cap, x']).run P w = .ok (.slice base (len + n) cap) w' := by
  unfold Builtin.append_
  simp only [List.getElem?_toArray, List.getElem?_cons_zero, List.getElem?_cons_succ, Sem.run_bind, run_underlying hu, run_underlying hux, Result.andThen_ok, run_sizeOf' hs, Sem.run_pure]
  cases d with
  | int k => cases hd
  | _ =>
    simp only [Bool.false_eq_true, if_false, hln, Result.andThen_ok, if_pos hfit, Bool.not_false, if_true, Sem.run_bind, hnew]
    cases base with
    | none => rw [hnb rfl]; simp
    | some a => simp [hst a rfl]

theorem append_grows {sT xT ty elem size n len cap : Nat} {d : TypeDesc} {base : Option Addr} {x' : Value} {old new : List Value} {zv : Value} {i : TypeInfo} (hu : P.underlying sT = some (.slice elem)) (hs : tySize P elem = some size)
    (hux : P.underlying xT = some d) (hd : isIntD d = false) (hi : P.info? elem = some i) (hb1 : i.bytes ≤ 1000000) (hb0 : 0 < i.bytes) (hzv : ∀ w, (zeroValue elem).run P w = .ok zv w)
    (hln : (Builtin.lenOf x').run P w = .ok n w) (hnew : (Builtin.firstCells size n x').run P w.drew = .ok new.toArray w.drew) (hold : (Builtin.firstCells size len (.slice base len cap)).run P w.drew = .ok old.toArray w.drew)
    (hfit : ¬ len + n ≤ cap) (hbig : len + n ≤ 1000000) :
    (Builtin.append_ #[sT, xT] ty #[.slice base len cap, x']).run P w = .ok (.slice (some ⟨w.heap.size, 0, none⟩) (len + n) (grownCap w (len + n) cap elem))
      (w.drew.alloc (.cells (old ++ new ++ (Builtin.zeroCells zv.cells (grownCap w (len + n) cap elem - (len + n))).toList).toArray elem)) := by
  have h1 : ¬ ((((len + n : Nat) : Int) > IntKind.i64.max) ∧ (False ∨ i.bytes = 0)) := by
    rintro ⟨_, h | h⟩
    · exact h
    · omega
  have h2 : ¬ Builtin.nextslicecap (len + n) cap * i.bytes > 2 ^ 48 := by
    have := nextcap_le (len + n) cap (by omega) hbig
    have h3 : Builtin.nextslicecap (len + n) cap * i.bytes ≤ 16012288 * 1000000 := Nat.mul_le_mul this hb1
    have e : (2 : Nat) ^ 48 = 281474976710656 := rfl
    omega
  unfold Builtin.append_
  simp only [List.getElem?_toArray, List.getElem?_cons_zero, List.getElem?_cons_succ, Sem.run_bind, run_underlying hu, run_underlying hux, Result.andThen_ok, run_sizeOf' hs, Sem.run_pure]
  cases d with
  | int k => cases hd
  | _ =>
    simp only [Bool.false_eq_true, if_false, hln, Result.andThen_ok, if_neg hfit, Bool.not_false, if_true, Sem.run_bind, run_typeInfo' hi]
    rw [if_neg h1]
    simp only [Sem.run_bind, Result.andThen_ok, run_typeInfo' hi]
    rw [if_neg h2]
    simp only [Sem.run_bind, run_choose, Question.forced, Bool.false_eq_true, if_false, Result.andThen_ok, run_typeInfo' hi, run_askRoom, World.drew_eq, hold, hnew, hzv, newRow_run, Sem.run_pure]
    refine congrArg (fun o => Result.ok _ (w.drew.alloc (.cells o elem))) ?_
    apply Array.ext'
    simp [grownCap]

theorem asInt_of_kind {d : TypeDesc} (hn : ∀ k, d = .int k → False) : isIntD d = false := by
  cases d with
  | int k => exact (hn k rfl).elim
  | _ => rfl

/-- A block takes another's place under a new number. -/
theorem RW.alias (H : RW σ β m h w) {b B : Nat} {o o' : SO} {O' : Obj} {w' : World} {C : Nat} (hb : h.t.get b = some o) (hB : m.ρ[b]? = some B) (ho : RO σ (m.newk B C) o' O') (hw : Turned B O' w w') :
    RW σ β (m.newk B C) { ((h.drop b).new o') with nk := h.nk + 1 } w' where
  lenρ := by simp [Md.newk, Hp.new, Hp.drop, H.lenρ]
  lenκ := by simp [Md.newk, H.lenκ]
  obj := fun i x hi => by
    simp only [Hp.new, Hp.drop, T.get_set] at hi
    obtain ⟨B0, O0, k1, _, _, k4⟩ := H.obj b o hb
    rw [hB] at k1; cases k1
    split at hi
    · rename_i e; subst e; cases hi
      exact ⟨B, O', by simp [Md.newk, ← H.lenρ], hw.at_, ho, k4⟩
    · split at hi
      · cases hi
      · rename_i e1 e2
        obtain ⟨B', O, h1, h2, h3, h4⟩ := H.obj i x hi
        refine ⟨B', O, (m.le_newk _ _).le_ρ h1, ?_, RO_mono (m.le_newk _ _) h3, h4⟩
        rw [hw.other, h2]
        intro e'; subst e'
        exact e2 (H.inj i b x o hi hb (h1.trans hB.symm))
  inj := fun i j o1 o2 h1 h2 h3 => by
    simp only [Hp.new, Hp.drop, T.get_set] at h1 h2
    have key : ∀ (i : Nat) (o1 : SO), (if i = h.nx then some o' else if i = b then none else h.t.get i) = some o1 → i ≠ h.nx → (m.newk B C).ρ[i]? ≠ some B := by
      intro i o1 hi hne
      rw [if_neg hne] at hi
      split at hi
      · cases hi
      · rename_i e2
        obtain ⟨B', O, k1, _⟩ := H.obj i o1 hi
        rw [(m.le_newk B C).le_ρ k1]
        intro e'; cases e'
        exact e2 (H.inj i b o1 o hi hb (k1.trans hB.symm))
    have hat : (m.newk B C).ρ[h.nx]? = some B := by simp [Md.newk, ← H.lenρ]
    by_cases e1 : i = h.nx
    · by_cases e2 : j = h.nx
      · rw [e1, e2]
      · exact (key j o2 h2 e2 (by rw [← h3, e1, hat])).elim
    · by_cases e2 : j = h.nx
      · exact (key i o1 h1 e1 (by rw [h3, e2, hat])).elim
      · rw [if_neg e1] at h1
        rw [if_neg e2] at h2
        split at h1
        · cases h1
        · split at h2
          · cases h2
          · obtain ⟨B1, _, k1, _⟩ := H.obj i o1 h1
            obtain ⟨B2, _, k2, _⟩ := H.obj j o2 h2
            refine H.inj i j o1 o2 h1 h2 ?_
            rw [(m.le_newk B C).le_ρ k1, (m.le_newk B C).le_ρ k2] at h3
            rw [k1, k2, h3]
  prot := fun b' x hx => by
    have hne : b' ≠ B := by
      intro e; subst e
      obtain ⟨B', _, h1, _, _, h4⟩ := H.obj b o hb
      rw [hB] at h1; cases h1
      rw [h4] at hx; cases hx
    rw [hw.other b' hne]; exact H.prot b' x hx
  tape := hw.tape.trans H.tape
  os := hw.os.trans H.os
  out := hw.out.trans H.out
  size := by rw [hw.size]; exact H.size

/-- A new block whose capacity is drawn. -/
theorem RW.newk (H : RW σ β m h w) {cs : List SV} {us ex : List Value} {elem size C len : Nat} (hr : RL σ m cs us) (htot : us.length + ex.length = C * size) (hlen : len ≤ C) {s : Sem Value}
    (hs : s.run P w = .ok (.slice (some ⟨w.heap.size, 0, none⟩) len C) (w.drew.alloc (.cells (us ++ ex).toArray elem))) :
    VR σ β P m s w (.sl (some (h.nx, 0)) len (.unk h.nk)) { (h.new (.cells cs elem (some (h.nk, size)) (0, 0))) with nk := h.nk + 1 } := by
  have H1 := (H.drew.addk C)
  have hle : m.le (⟨m.ρ, m.κ ++ [C]⟩ : Md) := ⟨⟨[], by simp⟩, ⟨[C], rfl⟩⟩
  have hle2 := hle.trans (Md.le_new (⟨m.ρ, m.κ ++ [C]⟩ : Md) w.heap.size)
  refine ⟨_, _, _, hle2, ?_, ?_, hs⟩
  · exact H1.new (o := .cells cs elem (some (h.nk, size)) (0, 0)) (O := .cells (us ++ ex).toArray elem) ⟨us, ex, (0, 0), rfl, RL_mono hle2 _ _ hr, .inl rfl, ⟨C, by simp [Md.new, ← H.lenκ], htot⟩⟩
  · unfold R
    exact ⟨w.heap.size, C, by simp [Md.new, ← H.lenρ], ⟨by simp [Md.new, ← H.lenκ], hlen⟩, rfl⟩

theorem evAppend_sound (H : RW σ β m h w) {sT xT ty : TypeId} {s x : SV} {s' x' : Value} {r : SV × Hp} (he : evAppend P h sT xT s x = some r) (hs : R σ m s s') (hx : R σ m x x') :
    VR σ β P m (Builtin.append_ #[sT, xT] ty #[s', x']) w r.1 r.2 := by
  unfold evAppend at he
  split at he
  · cases he
  · rename_i elem d base len cap n hnint hu hux hn
    split at he
    · rename_i size z bytes new hsz hz hby hnew
      split at he
      · cases he
      · rename_i hc
        simp only [Bool.not_eq_true', Bool.not_eq_false, Bool.and_eq_true, beq_iff_eq, decide_eq_true_eq] at hc
        obtain ⟨⟨⟨⟨⟨⟨⟨ht, hzl⟩, hpos⟩, hnl⟩, hst⟩, hb1⟩, hb0⟩, hbig⟩ := hc
        rw [hsz] at hnew
        simp only [Option.getD_some] at hnew
        have hd : isIntD d = false := asInt_of_kind (fun k e => hnint k e)
        obtain ⟨zv, hzv, rfl, _⟩ := run_zero' hz
        have hzr := cells_told ht (R_ofV σ m zv)
        have hzlen : zv.cells.size = size := by have := RL_length hzr; rw [← hzl, ← this]; simp
        unfold tyBytes at hby
        obtain ⟨i, hi, rfl⟩ := Option.map_eq_some_iff.1 hby
        have hln := srcLen_run (P := P) hn hx w
        obtain ⟨us, hus, hr⟩ := srcCells_run (P := P) H hnew hx (w' := w) rfl
        have hul := RL_length hr
        obtain ⟨us2, hus2, hr2⟩ := srcCells_run (P := P) H hnew hx (w' := w.drew) rfl
        have hul2 := RL_length hr2
        have hsto := storable_cells hst hr
        split at he
        · -- nil
          split at he
          · rename_i hn0
            split at he
            · rename_i hl0
              cases he
              unfold R at hs; obtain ⟨C, rfl, rfl⟩ := hs
              subst hn0; subst hl0
              refine VR.pure H (v' := .slice none 0 0) (by unfold R; exact ⟨0, rfl, rfl⟩) ?_
              exact append_fits (w' := w) hu hsz hux hd hln hus (by simp) (fun a e => by cases e) (fun _ => rfl)
            · cases he
          · rename_i hn0
            split at he
            · rename_i hl0
              cases he
              unfold R at hs; obtain ⟨C, rfl, rfl⟩ := hs
              subst hl0
              have hrun := append_grows (ty := ty) (base := none) (cap := 0) (old := []) hu hsz hux hd hi hb1 hb0 hzv hln hus2 rfl (by omega) hbig
              simp only [Nat.zero_add, List.nil_append] at hrun
              have hge := grownCap_ge w n 0 elem
              refine H.newk hr2 (ex := (Builtin.zeroCells zv.cells (grownCap w n 0 elem - n)).toList) ?_ hge hrun
              simp only [Array.length_toList, size_zeroCells, hzlen, hul2, hnl]
              rw [← Nat.add_mul]; congr 1; omega
            · cases he
        · -- an exact capacity
          rename_i b o c
          unfold R at hs; obtain ⟨B, C, hB, rfl, rfl⟩ := hs
          split at he
          · rename_i cs el sl fz hb
            split at he
            · rename_i hfit
              split at he
              · rename_i hfz
                obtain ⟨cs', hsp, rfl⟩ := Option.map_eq_some_iff.1 he
                obtain ⟨w', hw, H'⟩ := H.store (P := P) hb hB (by simpa using hfz) hsp hr hsto
                refine ⟨.slice (some ⟨B, o, none⟩) (len + n) C, w', m, m.le_refl, H', (by unfold R; exact ⟨B, _, hB, rfl, rfl⟩), ?_⟩
                exact append_fits hu hsz hux hd hln hus hfit (fun a e => by cases e; rw [addr_add]; exact hw) (fun e => by cases e)
              · cases he
            · rename_i hfit
              split at he
              · rename_i old hold
                cases he
                have hold' : srcCells h size len (.sl (some (b, o)) len (.exact C)) = some old := by
                  simp only [srcCells, hb, hold]
                obtain ⟨os, hos, hro⟩ := srcCells_run (P := P) H hold' (x' := .slice (some ⟨B, o, none⟩) len C) (by unfold R; exact ⟨B, _, hB, rfl, rfl⟩) (w' := w.drew) rfl
                have hol := RL_length hro
                obtain ⟨_, holen⟩ := cut_some hold
                have hrun := append_grows (ty := ty) (base := some ⟨B, o, none⟩) (cap := C) hu hsz hux hd hi hb1 hb0 hzv hln hus2 hos hfit hbig
                have hge := grownCap_ge w (len + n) C elem
                refine H.newk (RL_append hro hr2) (ex := (Builtin.zeroCells zv.cells (grownCap w (len + n) C elem - (len + n))).toList) ?_ hge hrun
                simp only [List.length_append, Array.length_toList, size_zeroCells, hzlen, hul2, hnl, hol, holen]
                rw [← Nat.add_mul, ← Nat.add_mul]; congr 1; omega
              · cases he
          · cases he
        · -- a capacity that was drawn
          rename_i b j
          unfold R at hs; obtain ⟨B, C, hB, ⟨hC, hle⟩, rfl⟩ := hs
          split at he
          · rename_i cs el j' sz fz hb
            split at he
            · rename_i hcc
              simp only [Bool.and_eq_true, decide_eq_true_eq, beq_iff_eq] at hcc
              obtain ⟨⟨⟨⟨rfl, rfl⟩, rfl⟩, hcl⟩, rfl⟩ := hcc
              obtain ⟨vs0, ex, F, hg, hheap, hrv, hF, hsl⟩ := H.cells hb hB
              obtain ⟨C', hC', htot⟩ := hsl
              rw [hC] at hC'; cases hC'
              have hvl := RL_length hrv
              split at he
              · rename_i hn0
                cases he
                subst hn0
                refine VR.pure H (v' := .slice (some ⟨B, 0, none⟩) len C) (by unfold R; exact ⟨B, C, hB, ⟨hC, hle⟩, rfl⟩) ?_
                have hun : us = [] := by
                  have : us.length = 0 := by rw [hul, hnl]; simp
                  exact List.eq_nil_of_length_eq_zero this
                subst hun
                exact append_fits (w' := w) hu hsz hux hd hln hus (by omega) (fun a e => by cases e; rfl) (fun e => by cases e)
              · rename_i hn0
                cases he
                by_cases hfit : len + n ≤ C
                · -- in place
                  have hroom : (len + n) * sz ≤ C * sz := Nat.mul_le_mul_right _ hfit
                  have hmul : (len + n) * sz = len * sz + n * sz := Nat.add_mul _ _ _
                  have hst := storeCells_fz P B (len * sz) el F us 0 (vs0 ++ ex).toArray w hheap (by simp; omega) hsto (by
                    intro k hk
                    rcases hF with rfl | ⟨_, rfl⟩
                    · simp
                    · simp at hk ⊢; omega)
                  have e1 : (vs0 ++ ex).toArray.toList.take (len * sz + 0) = vs0 := by
                    simp only [Nat.add_zero]
                    rw [← hcl, ← hvl]; simp
                  have e2 : (vs0 ++ ex).toArray.toList.drop (len * sz + 0 + us.length) = ex.drop (n * sz) := by
                    simp only [Nat.add_zero]
                    have : len * sz + us.length = vs0.length + n * sz := by omega
                    rw [this, List.drop_append]
                    simp
                  rw [e1, e2] at hst
                  refine ⟨.slice (some ⟨B, 0, none⟩) (len + n) C, _, m.newk B C, m.le_newk _ _, ?_, ?_, append_fits hu hsz hux hd hln hus hfit (fun a e => by cases e; rw [addr_add, Nat.zero_add]; exact hst) (fun e => by cases e)⟩
                  · refine H.alias hg hB (O' := .cells (vs0 ++ us ++ ex.drop (n * sz)).toArray el F) ⟨vs0 ++ us, ex.drop (n * sz), F, by simp, RL_mono (m.le_newk _ _) _ _ (RL_append hrv hr), ?_, ⟨C, by simp [Md.newk, ← H.lenκ], ?_⟩⟩ (setRow_turned _ _ _ _ _ _ hheap)
                    · have : (vs0 ++ us).length + (ex.drop (n * sz)).length = vs0.length + ex.length := by simp; omega
                      rw [this]
                      rcases hF with rfl | ⟨_, rfl⟩
                      · exact .inl rfl
                      · exact .inr ⟨rfl, rfl⟩
                    · simp; omega
                  · unfold R
                    exact ⟨B, C, by simp [Md.newk, ← H.lenρ], ⟨by simp [Md.newk, ← H.lenκ], hfit⟩, rfl⟩
                · -- a new array
                  have hold' : srcCells h sz len (.sl (some (b, 0)) len (.unk j)) = some cs := by
                    simp only [srcCells, hb, cut]
                    simp [← hcl]
                  obtain ⟨os, hos, hro⟩ := srcCells_run (P := P) H hold' (x' := .slice (some ⟨B, 0, none⟩) len C) (by unfold R; exact ⟨B, C, hB, ⟨hC, hle⟩, rfl⟩) (w' := w.drew) rfl
                  have hol := RL_length hro
                  have hrun := append_grows (ty := ty) (base := some ⟨B, 0, none⟩) (cap := C) hu hsz hux hd hi hb1 hb0 hzv hln hus2 hos hfit hbig
                  have hge := grownCap_ge w (len + n) C el
                  exact (H.drop b).newk (RL_append hro hr2) (ex := (Builtin.zeroCells zv.cells (grownCap w (len + n) C el - (len + n))).toList) (by
                    simp only [List.length_append, Array.length_toList, size_zeroCells, hzlen, hul2, hnl, hol, hcl]
                    rw [← Nat.add_mul, ← Nat.add_mul]; congr 1; omega) hge hrun
            · cases he
          · cases he
        · cases he
    · cases he
  · cases he

end

end Go.Sy
