/- A symbolic evaluator for the model's programs: slices, made and appended to. -/
import Derived.Test.YtfbhiknjhcbfoaaDoorSy10
namespace Go.Sy

section
variable {σ : Vl} {β : Bs} {P : Program} {m : Md} {h : Hp} {w : World}

theorem optMap {ev : Operand → SV} {av : Operand → Value} {x : Option Operand} (hev : ∀ o, x = some o → R σ m (ev o) (av o)) :
    (∀ v, x.map ev = some v → ∃ v', x.map av = some v' ∧ R σ m v v') ∧ (x.map ev = none → x.map av = none) := by
  cases x with
  | none => exact ⟨(fun _ h => by cases h), fun _ => rfl⟩
  | some o => exact ⟨(fun v hv => by cases hv; exact ⟨av o, rfl, hev o rfl⟩), (fun h => by cases h)⟩

theorem evSlice_sound {t : TypeId} {x v : SV} {x' : Value} {lo hi mx : Option SV} {lo' hi' mx' : Option Value} (he : evSlice P t x lo hi mx = some v) (hx : R σ m x x')
    (hlo : (∀ v, lo = some v → ∃ v', lo' = some v' ∧ R σ m v v') ∧ (lo = none → lo' = none))
    (hhi : (∀ v, hi = some v → ∃ v', hi' = some v' ∧ R σ m v v') ∧ (hi = none → hi' = none))
    (hmx : (∀ v, mx = some v → ∃ v', mx' = some v' ∧ R σ m v v') ∧ (mx = none → mx' = none)) :
    VP σ β P m h (Instr.sliceAt t x' lo' hi' mx') v := by
  intro w H
  unfold evSlice at he
  split at he
  · rename_i l? h? m? hl hh hm
    have el := litN_sound hl hlo.1 hlo.2
    have eh := litN_sound hh hhi.1 hhi.2
    have em := litN_sound hm hmx.1 hmx.2
    simp only at he
    split at he
    · rename_i s hu
      unfold R at hx; subst hx
      split at he
      · rename_i hc
        simp only [Bool.and_eq_true, decide_eq_true_eq] at hc
        obtain ⟨⟨hmn, h1⟩, h2⟩ := hc
        cases he
        have hm0 : m? = none := by simpa using hmn
        subst hm0
        have hmx0 : mx' = none := by
          rcases em with ⟨_, e⟩ | ⟨_, _, e, _⟩
          · exact e
          · cases e
        subst hmx0
        have hb := bounds_run (P := P) (isS := false) (len := s.length) (cap := s.length) el eh (.inl ⟨rfl, rfl⟩) h1 (by simpa using h2) (by simp) (.inl rfl) w
        have hsz : (⟨(X.S σ (.sl s)).toArray⟩ : ByteArray).size = s.length := rfl
        refine ⟨.string ⟨((s.drop (l?.getD 0)).take (h?.getD s.length - l?.getD 0)).toArray⟩, by unfold R; rfl, ?_⟩
        simp only [Instr.sliceAt, Instr.slice, Sem.run_bind, run_underlying hu, Result.andThen_ok, hsz, hb, Option.isSome_none, Bool.false_eq_true, if_false, Sem.run_pure]
        rw [show (⟨(X.S σ (.sl s)).toArray⟩ : ByteArray) = ByteArray.mk s.toArray from rfl, ByteArray.extract_mk]
      · cases he
    · rename_i elem a len cap hu
      split at he
      · rename_i size c hs hcap
        split at he
        · rename_i hc
          simp only [Bool.and_eq_true, decide_eq_true_eq, Bool.or_eq_true] at hc
          obtain ⟨⟨⟨h1, h2⟩, h3⟩, h4⟩ := hc
          cases he
          have hcx : cap = .exact c := by
            cases cap with
            | exact n => simp [capN] at hcap; rw [hcap]
            | unk j => simp [capN] at hcap
          subst hcx
          have hb := bounds_run (P := P) (isS := true) (len := len) (cap := c) el eh em h1 h2 h3 h4 w
          cases a with
          | none =>
            unfold R at hx; obtain ⟨C, rfl, rfl⟩ := hx
            refine ⟨.slice none (h?.getD len - l?.getD 0) (m?.getD C - l?.getD 0), ?_, ?_⟩
            · simp only [Option.map_none, ite_self]; unfold R; exact ⟨_, rfl, rfl⟩
            · simp only [Instr.sliceAt, Instr.slice, Sem.run_bind, run_underlying hu, Result.andThen_ok, hb, run_sizeOf' hs, Sem.run_pure, Option.map_none, ite_self]
          | some p =>
            unfold R at hx; obtain ⟨B, C, hB, rfl, rfl⟩ := hx
            by_cases hml : m?.getD C = l?.getD 0
            · refine ⟨.slice (some ⟨B, p.2, none⟩) (h?.getD len - l?.getD 0) (m?.getD C - l?.getD 0), ?_, ?_⟩
              · rw [if_pos hml]; unfold R; exact ⟨B, _, hB, rfl, rfl⟩
              · simp only [Instr.sliceAt, Instr.slice, Sem.run_bind, run_underlying hu, Result.andThen_ok, hb, run_sizeOf' hs, Sem.run_pure, if_pos hml]
            · refine ⟨.slice (some ⟨B, p.2 + l?.getD 0 * size, none⟩) (h?.getD len - l?.getD 0) (m?.getD C - l?.getD 0), ?_, ?_⟩
              · rw [if_neg hml]; simp only [Option.map_some]; unfold R; exact ⟨B, _, hB, rfl, rfl⟩
              · simp only [Instr.sliceAt, Instr.slice, Sem.run_bind, run_underlying hu, Result.andThen_ok, hb, run_sizeOf' hs, Sem.run_pure, if_neg hml, Option.map_some, addr_add]
        · cases he
      · rename_i size hs hcap
        split at he
        · rename_i hc
          simp only [Bool.and_eq_true, decide_eq_true_eq] at hc
          obtain ⟨⟨hl0, h1⟩, hmn⟩ := hc
          cases he
          have hm0 : m? = none := by simpa using hmn
          subst hm0
          have hmx0 : mx' = none := by
            rcases em with ⟨_, e⟩ | ⟨_, _, e, _⟩
            · exact e
            · cases e
          subst hmx0
          have hlen : ∀ C, capR m len cap C → len ≤ C ∧ capR m (h?.getD len) cap C := by
            intro C hC
            cases cap with
            | exact n => simp [capN] at hcap
            | unk j => exact ⟨hC.2, hC.1, Nat.le_trans h1 hC.2⟩
          cases a with
          | none =>
            unfold R at hx; obtain ⟨C, hC, rfl⟩ := hx
            have hb := bounds_run (P := P) (isS := true) (len := len) (cap := C) el eh (.inl ⟨rfl, rfl⟩) (by omega) (by have := (hlen C hC).1; simp; omega) (by simp) (.inl rfl) w
            refine ⟨.slice none (h?.getD len) C, ?_, ?_⟩
            · unfold R; exact ⟨_, (hlen C hC).2, rfl⟩
            · simp only [Instr.sliceAt, Instr.slice, Sem.run_bind, run_underlying hu, Result.andThen_ok, hb, run_sizeOf' hs, Sem.run_pure, Option.map_none, ite_self, hl0, Nat.sub_zero, Option.getD_none]
          | some p =>
            unfold R at hx; obtain ⟨B, C, hB, hC, rfl⟩ := hx
            have hb := bounds_run (P := P) (isS := true) (len := len) (cap := C) el eh (.inl ⟨rfl, rfl⟩) (by omega) (by have := (hlen C hC).1; simp; omega) (by simp) (.inl rfl) w
            refine ⟨.slice (some ⟨B, p.2, none⟩) (h?.getD len) C, ?_, ?_⟩
            · unfold R; exact ⟨B, _, hB, (hlen C hC).2, rfl⟩
            · simp only [Instr.sliceAt, Instr.slice, Sem.run_bind, run_underlying hu, Result.andThen_ok, hb, run_sizeOf' hs, Sem.run_pure, hl0, Nat.sub_zero, Option.getD_none, Nat.zero_mul, Option.map_some, addr_add, Nat.add_zero, ite_self]
        · split at he <;> cases he
      · cases he
    · rename_i n elem b o hu
      unfold R at hx; obtain ⟨B, hB, rfl⟩ := hx
      split at he
      · rename_i size hs
        split at he
        · rename_i hc
          simp only [Bool.and_eq_true, decide_eq_true_eq, Bool.or_eq_true] at hc
          obtain ⟨⟨⟨h1, h2⟩, h3⟩, h4⟩ := hc
          cases he
          have hb := bounds_run (P := P) (isS := false) (len := n) (cap := n) el eh em h1 h2 h3 h4 w
          by_cases hml : m?.getD n = l?.getD 0
          · refine ⟨.slice (some ⟨B, o, none⟩) (h?.getD n - l?.getD 0) (m?.getD n - l?.getD 0), ?_, ?_⟩
            · rw [if_pos hml]; unfold R; exact ⟨B, _, hB, rfl, rfl⟩
            · simp only [Instr.sliceAt, Sem.run_bind, run_underlying hu, Result.andThen_ok, Instr.sureAddr, hb, run_sizeOf' hs, Sem.run_pure, if_pos hml]
          · refine ⟨.slice (some ⟨B, o + l?.getD 0 * size, none⟩) (h?.getD n - l?.getD 0) (m?.getD n - l?.getD 0), ?_, ?_⟩
            · rw [if_neg hml]; unfold R; exact ⟨B, _, hB, rfl, rfl⟩
            · simp only [Instr.sliceAt, Sem.run_bind, run_underlying hu, Result.andThen_ok, Instr.sureAddr, hb, run_sizeOf' hs, Sem.run_pure, if_neg hml, addr_add]
        · cases he
      · cases he
    · cases he
  · cases he

theorem evMakeSlice_sound (H : RW σ β m h w) {t : TypeId} {l c : SV} {l' c' : Value} {r : SV × Hp} (he : evMakeSlice P h t l c = some r) (hl : R σ m l l') (hc : R σ m c c') :
    VR σ β P m (Instr.makeSlice t l' c') w r.1 r.2 := by
  unfold evMakeSlice at he
  split at he
  · rename_i elem k l k' c hu
    unfold R at hl hc; subst hl; subst hc
    split at he
    · rename_i size z bytes hs hz hb
      split at he
      · rename_i hcc
        simp only [Bool.and_eq_true, beq_iff_eq, decide_eq_true_eq] at hcc
        obtain ⟨⟨⟨⟨⟨⟨ht, hzl⟩, hpos⟩, h0⟩, hlc⟩, hcm⟩, hbm⟩ := hcc
        cases he
        obtain ⟨zv, hzv, rfl, _⟩ := run_zero' hz
        have hzr := cells_told ht (R_ofV σ m zv)
        have hzlen := RL_length hzr
        unfold tyBytes at hb
        obtain ⟨i, hi, rfl⟩ := Option.map_eq_some_iff.1 hb
        have hcells : (Array.range (c.toNat * size)).map (fun i => zv.cells[i % zv.cells.size]!) = (List.replicate c.toNat zv.cells.toList).flatten.toArray := by
          have := rep_range zv.cells.toList (by omega) c.toNat
          rw [hzlen, hzl] at this
          simpa using this
        have hwl : IntKind.i64.wrap l = l := IntWalk.i64_in _ (by omega)
        have hwc : IntKind.i64.wrap c = c := IntWalk.i64_in _ (by omega)
        have hprod : (i.bytes : Int) * c ≤ 1000000 * 1000000 := by
          have : (i.bytes : Int) * c ≤ 1000000 * c := Int.mul_le_mul_of_nonneg_right (by omega) (by omega)
          omega
        have hprod2 : (i.bytes : Int) * l ≤ 1000000 * 1000000 := by
          have : (i.bytes : Int) * l ≤ 1000000 * l := Int.mul_le_mul_of_nonneg_right (by omega) (by omega)
          omega
        have hbig : (2 : Int) ^ 48 = 281474976710656 := rfl
        refine ⟨.slice (some ⟨w.heap.size, 0, none⟩) l.toNat c.toNat, w.alloc (.cells (List.replicate c.toNat zv.cells.toList).flatten.toArray elem), m.new w.heap.size, m.le_new _,
          H.new (RO_new (RL_mono (m.le_new _) _ _ (RL_rep hzr c.toNat)) elem), ?_, ?_⟩
        · unfold R; exact ⟨w.heap.size, c.toNat, by simp [Md.new, ← H.lenρ], rfl, rfl⟩
        · have hc1 : ¬ ((decide (c < 0) || decide (↑i.bytes * c > 2 ^ 48) || decide (l < 0) || decide (l > c)) = true) := by
            simp only [Bool.or_eq_true, decide_eq_true_eq, not_or]
            refine ⟨⟨⟨by omega, by rw [hbig]; omega⟩, by omega⟩, by omega⟩
          simp only [Instr.makeSlice, Sem.run_bind, run_underlying hu, Result.andThen_ok, asInt, asIntOf, Sem.run_pure, X.I, X.d, run_typeInfo' hi, hwl, hwc]
          rw [if_neg hc1]
          simp only [Sem.run_bind, Result.andThen_ok, run_askRoom, run_sizeOf' hs]
          by_cases hn : c.toNat = 0
          · rw [if_pos (by rw [hn]; simp)]
            have e1 : Array.map (fun x => (#[] : Array Value)[x % (#[] : Array Value).size]!) (Array.range (c.toNat * size)) = #[] := by rw [hn]; simp
            simp only [Sem.run_bind, Sem.run_pure, Result.andThen_ok, e1, newRow_run]
            simp [hn]
          · have : ¬ c.toNat * size = 0 := by
              have := Nat.mul_ne_zero hn (by omega : size ≠ 0); omega
            rw [if_neg this]
            simp only [Sem.run_bind, hzv, Result.andThen_ok, Sem.run_pure, hcells, newRow_run]
      · cases he
    · cases he
  · cases he

/-! ### append and copy -/

theorem srcLen_run {x : SV} {x' : Value} {n : Nat} (he : srcLen x = some n) (hx : R σ m x x') (w : World) : (Builtin.lenOf x').run P w = .ok n w := by
  unfold srcLen at he
  split at he
  · rename_i a k c
    cases he
    cases a with
    | none => unfold R at hx; obtain ⟨_, _, rfl⟩ := hx; rfl
    | some p => unfold R at hx; obtain ⟨_, _, _, _, rfl⟩ := hx; rfl
  · cases he
    unfold R at hx; subst hx; rfl
  · cases he

theorem srcCells_run (H : RW σ β m h w) {x : SV} {x' : Value} {size n : Nat} {cs : List SV} (he : srcCells h size n x = some cs) (hx : R σ m x x') {w' : World} (hw : w'.heap = w.heap) :
    ∃ us : List Value, (Builtin.firstCells size n x').run P w' = .ok us.toArray w' ∧ RL σ m cs us := by
  unfold srcCells at he
  split at he
  · cases he
    unfold R at hx; obtain ⟨_, _, rfl⟩ := hx
    exact ⟨[], rfl, RL_nil.2 rfl⟩
  · rename_i b o _ _
    unfold R at hx; obtain ⟨B, _, hB, _, rfl⟩ := hx
    split at he
    · rename_i cs0 _ _ _ hb
      obtain ⟨vs0, ex, F, hg, hheap, hr, hF, hsl⟩ := H.cells hb hB
      obtain ⟨rfl, hlen⟩ := cut_some he
      have hr' := RL_take (n * size) (RL_drop o hr)
      have hl' := RL_length hr'
      have e1 : ((vs0 ++ ex).drop o).take (n * size) = (vs0.drop o).take (n * size) := by
        by_cases h0 : n * size = 0
        · rw [h0]; simp
        · have : o + n * size ≤ vs0.length := by
            have := RL_length hr
            simp at hlen; omega
          rw [List.drop_append_of_le_length (by omega), List.take_append_of_le_length (by simp; omega)]
      refine ⟨(vs0.drop o).take (n * size), ?_, hr'⟩
      have hld := run_loadCells_at (P := P) (w := w') (o := o) (by rw [hw]; exact hheap) (n * size) (by rw [e1, hl', hlen])
      rw [e1] at hld
      exact hld
    · cases he
  · rename_i l
    cases he
    unfold R at hx; subst hx
    refine ⟨(l.take n).map (fun (c : UInt8) => Value.int .u8 c.toNat), ?_, RL_bytes _⟩
    simp only [Builtin.firstCells, Sem.run_pure]
    congr 1
    rw [show (⟨(X.S σ (.sl l)).toArray⟩ : ByteArray) = ByteArray.mk l.toArray from rfl, ByteArray.extract_mk]
    simp
  · cases he

theorem evCopy_sound (H : RW σ β m h w) {dT sT ty : TypeId} {d x : SV} {d' x' : Value} {r : SV × Hp} (he : evCopy P h dT d x = some r) (hd : R σ m d d') (hx : R σ m x x') :
    VR σ β P m (Builtin.copy_ #[dT, sT] ty #[d', x']) w r.1 r.2 := by
  unfold evCopy at he
  split at he
  · rename_i elem base dl c n hu hn
    split at he
    · rename_i size hs
      simp only at he
      split at he
      · rename_i cs hcs
        split at he
        · cases he
        · rename_i hc
          simp only [Bool.not_eq_true', Bool.not_eq_false, Bool.and_eq_true, decide_eq_true_eq] at hc
          obtain ⟨us, hus, hr⟩ := srcCells_run (P := P) H hcs hx (w' := w) rfl
          have hln := srcLen_run (P := P) hn hx w
          split at he
          · rename_i b o
            unfold R at hd; obtain ⟨B, C, hB, _, rfl⟩ := hd
            split at he
            · rename_i cs0 el sl fz hb
              split at he
              · rename_i hfz
                obtain ⟨cs', hsp, rfl⟩ := Option.map_eq_some_iff.1 he
                obtain ⟨w', hst, H'⟩ := H.store (P := P) hb hB (by simpa using hfz) hsp hr (storable_cells hc.2 hr)
                refine ⟨_, w', m, m.le_refl, H', (by unfold R; rfl), ?_⟩
                simp [Builtin.copy_, run_underlying hu, hln, run_sizeOf' hs, hus, hst, goInt, X.I, X.d]
              · cases he
            · cases he
          · unfold R at hd; obtain ⟨C, _, rfl⟩ := hd
            split at he
            · cases he
              refine ⟨_, w, m, m.le_refl, H, (by unfold R; rfl), ?_⟩
              rename_i hk
              rw [hk] at hus
              simp [Builtin.copy_, run_underlying hu, hln, run_sizeOf' hs, hus, goInt, X.I, X.d, hk]
            · cases he
      · cases he
    · cases he
  · cases he

end

end Go.Sy
