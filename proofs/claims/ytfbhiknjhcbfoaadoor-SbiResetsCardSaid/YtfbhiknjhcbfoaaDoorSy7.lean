/- A symbolic evaluator for the model's programs: operations that leave memory alone. -/
import Derived.Test.YtfbhiknjhcbfoaaDoorSy6
namespace Go.Sy

section
variable {σ : Vl} {β : Bs} {P : Program} {m : Md} {h : Hp} {w : World}

/-! ## composites -/

theorem run_part {t : TypeId} {cs : List SV} {us : List Value} {o : Nat} {v : SV} (he : part P t cs o = some v) (hr : RL σ m cs us) :
    ∃ v', (∀ w, (Go.part t us.toArray o).run P w = .ok v' w) ∧ R σ m v v' := by
  unfold part at he
  split at he
  · rename_i hagg
    split at he
    · rename_i n hn
      obtain ⟨s, hs, rfl⟩ := Option.map_eq_some_iff.1 he
      obtain ⟨rfl, hlen⟩ := cut_some hs
      refine ⟨.agg ((us.drop o).take n).toArray, fun w => ?_, ?_⟩
      · simp only [Go.part, Sem.run_bind, run_isAgg' hagg, Result.andThen_ok, if_true, run_sizeOf' hn, Sem.run_pure]
        congr 2
        apply Array.ext'
        simp
      · unfold R; exact ⟨_, rfl, RL_take _ (RL_drop _ hr)⟩
    · cases he
  · rename_i hagg
    obtain ⟨u, hu, hru⟩ := RL_get hr o v he
    refine ⟨u, fun w => ?_, hru⟩
    simp [Go.part, run_isAgg' hagg, hu]
  · cases he

theorem evField_sound {t : TypeId} {x v : SV} {x' : Value} {f : Nat} (he : evField P t x f = some v) (hx : R σ m x x') : VP σ β P m h (Instr.field t x' f) v := by
  intro w H
  unfold evField at he
  split at he
  · rename_i fields cs hu
    unfold R at hx
    obtain ⟨us, rfl, hr⟩ := hx
    split at he
    · rename_i fl hf
      obtain ⟨v', h1, h2⟩ := run_part he hr
      refine ⟨_, h2, ?_⟩
      simp [Instr.field, run_underlying hu, hf, asAgg, h1]
    · cases he
  · cases he

theorem evFieldAddr_sound {t : TypeId} {x v : SV} {x' : Value} {f : Nat} (he : evFieldAddr P t x f = some v) (hx : R σ m x x') : VP σ β P m h (Instr.fieldAt t x' f) v := by
  intro w H
  unfold evFieldAddr at he
  split at he
  · rename_i fields b o hu
    unfold R at hx
    obtain ⟨B, hB, rfl⟩ := hx
    split at he
    · rename_i fl hf
      split at he
      · rename_i n hn
        cases he
        refine ⟨.pointer (some ⟨B, o + fl.offset, none⟩), ?_, ?_⟩
        · unfold R; exact ⟨B, hB, rfl⟩
        · simp [Instr.fieldAt, run_underlying hu, hf, Instr.sureAddr, fieldPlace, run_sizeOf' hn, addr_add]
      · cases he
    · cases he
  · cases he

theorem foldl_set_eq : ∀ (vs : List Value) (k off : Nat) (cs : List Value), off + k + vs.length ≤ cs.length →
    (vs.zipIdx k).foldl (fun (cs : Array Value) (x : Value × Nat) => cs.setIfInBounds (off + x.2) x.1) cs.toArray = (cs.take (off + k) ++ vs ++ cs.drop (off + k + vs.length)).toArray
  | [], k, off, cs, _ => by simp
  | v :: vs, k, off, cs, hl => by
    have ih := foldl_set_eq vs (k + 1) off (cs.set (off + k) v) (by simp at hl ⊢; omega)
    simp only [List.zipIdx_cons, List.foldl_cons]
    have e1 : cs.toArray.setIfInBounds (off + k) v = (cs.set (off + k) v).toArray := by simp
    rw [e1, ih]
    congr 1
    have e := list_seg_step cs (off + k) v vs (by simp at hl ⊢; omega)
    simpa [Nat.add_assoc] using e

theorem fill_sound {place : Nat → Option (Nat × Nat)} : ∀ {parts : List (Nat × SV)} {parts' : List (Nat × Value)} {cs cs' : List SV} {us : List Value},
    fillSV place cs parts = some cs' → RL σ m cs us → (parts.map (·.1) = parts'.map (·.1)) → RL σ m (parts.map (·.2)) (parts'.map (·.2)) →
    ∃ us', Instr.fill place us.toArray parts' = some (List.toArray us') ∧ RL σ m cs' us'
  | [], parts', cs, cs', us, he, hr, h1, _ => by
    have : parts' = [] := by simpa using h1.symm
    subst this
    unfold fillSV at he
    cases he
    exact ⟨us, rfl, hr⟩
  | (i, v) :: rest, parts', cs, cs', us, he, hr, h1, h2 => by
    cases parts' with
    | nil => simp at h1
    | cons p rest' =>
      obtain ⟨i', v'⟩ := p
      simp only [List.map_cons, List.cons.injEq] at h1
      obtain ⟨rfl, h1⟩ := h1
      simp only [List.map_cons, RL_cons'] at h2
      obtain ⟨hv, h2⟩ := h2
      unfold fillSV at he
      unfold Instr.fill
      cases hp : place i with
      | none => rw [hp] at he; cases he
      | some os =>
        obtain ⟨off, size⟩ := os
        rw [hp] at he
        simp only at he
        split at he
        · rename_i hc
          simp only [Bool.and_eq_true, beq_iff_eq] at hc
          obtain ⟨ht, hsz⟩ := hc
          split at he
          · rename_i cs1 hs
            have hcs := cells_told ht hv
            have hl := RL_length hcs
            have hl2 := RL_length hr
            obtain ⟨hle, _⟩ := splice_some hs
            have hr1 := RL_splice hs hr hcs
            obtain ⟨us', hf, hr'⟩ := fill_sound he hr1 h1 h2
            refine ⟨us', ?_, hr'⟩
            have hc1 : (v'.cells.size ≠ size || off + v'.cells.size > us.toArray.size) = false := by
              have : v'.cells.size = size := by rw [← hsz, ← hl]; simp
              simp; omega
            simp only
            rw [if_neg (by simpa using hc1)]
            have e := foldl_set_eq v'.cells.toList 0 off us (by simp at hl ⊢; omega)
            have e2 : v'.cells.zipIdx.foldl (fun (cs : Array Value) (x : Value × Nat) => cs.setIfInBounds (off + x.2) x.1) us.toArray = (us.take off ++ v'.cells.toList ++ us.drop (off + v'.cells.toList.length)).toArray := by
              rw [← Array.foldl_toList, Array.toList_zipIdx]
              simpa using e
            rw [e2]
            exact hf
          · cases he
        · cases he

theorem mapM_places (fields : Array Field) (hall : fields.toList.all (fun (f : Field) => (tySize P f.type).isSome) = true) (w : World) :
    ∃ pl : List (Nat × Nat), (fields.mapM (fun (f : Field) => do pure (f.offset, ← sizeOf f.type)) : Sem (Array (Nat × Nat))).run P w = .ok pl.toArray w ∧ ∀ i, pl[i]? = structPlace P fields i := by
  rw [Array.mapM_eq_mapM_toList]
  obtain ⟨fs⟩ := fields
  have key : ∀ fs : List Field, fs.all (fun (f : Field) => (tySize P f.type).isSome) = true →
      ∃ pl : List (Nat × Nat), (fs.mapM (fun (f : Field) => do pure (f.offset, ← sizeOf f.type)) : Sem (List (Nat × Nat))).run P w = .ok pl w ∧
        ∀ i : Nat, pl[i]? = (fs[i]?).bind (fun (f : Field) => (tySize P f.type).map fun s => (f.offset, s)) := by
    intro fs
    induction fs with
    | nil => intro _; exact ⟨[], by simp, by simp⟩
    | cons f fs ih =>
      intro hall
      simp only [List.all_cons, Bool.and_eq_true] at hall
      obtain ⟨pl, h1, h2⟩ := ih hall.2
      obtain ⟨s, hs⟩ := Option.isSome_iff_exists.1 hall.1
      refine ⟨(f.offset, s) :: pl, ?_, ?_⟩
      · rw [List.mapM_cons]
        simp only [Sem.run_bind, run_sizeOf' hs, Result.andThen_ok, Sem.run_pure, h1]
      · intro i
        cases i with
        | zero => simp [hs]
        | succ i => simp [h2 i]
  obtain ⟨pl, h1, h2⟩ := key fs hall
  refine ⟨pl, ?_, ?_⟩
  · simp only [Sem.run_map, h1, Result.andThen_ok]
  · intro i
    rw [h2 i]
    unfold structPlace
    simp only [List.getElem?_toArray]
    cases fs[i]? <;> simp

theorem evBuild_sound {t : TypeId} {parts : List (Nat × SV)} {parts' : List (Nat × Value)} {v : SV} (he : evBuild P t parts = some v)
    (h1 : parts.map (·.1) = parts'.map (·.1)) (h2 : RL σ m (parts.map (·.2)) (parts'.map (·.2))) : VP σ β P m h (Instr.build t parts'.toArray) v := by
  intro w H
  unfold evBuild at he
  split at he
  · rename_i z fields hz hu
    split at he
    · rename_i hc
      simp only [Bool.and_eq_true] at hc
      obtain ⟨cs, hf, rfl⟩ := Option.map_eq_some_iff.1 he
      obtain ⟨zv, hzv, rfl, _⟩ := run_zero' hz
      obtain ⟨us', hfill, hr'⟩ := fill_sound hf (cells_told hc.1 (R_ofV σ m zv)) h1 h2
      obtain ⟨pl, hpl, hplace⟩ := mapM_places (P := P) fields hc.2 w
      have e : (fun i => pl[i]?) = structPlace P fields := funext hplace
      refine ⟨.agg us'.toArray, by unfold R; exact ⟨_, rfl, hr'⟩, ?_⟩
      simp only [Instr.build, Sem.run_bind, hzv, Result.andThen_ok, run_underlying hu, hpl]
      have e2 : (fun i => pl.toArray[i]?) = structPlace P fields := by rw [← e]; funext i; simp
      rw [e2]
      simp only [Array.toArray_toList] at hfill
      rw [hfill]
      rfl
    · cases he
  · rename_i z n elem hz hu
    split at he
    · rename_i size hs
      split at he
      · rename_i hc
        obtain ⟨cs, hf, rfl⟩ := Option.map_eq_some_iff.1 he
        obtain ⟨zv, hzv, rfl, _⟩ := run_zero' hz
        obtain ⟨us', hfill, hr'⟩ := fill_sound hf (cells_told hc (R_ofV σ m zv)) h1 h2
        refine ⟨.agg us'.toArray, by unfold R; exact ⟨_, rfl, hr'⟩, ?_⟩
        simp only [Instr.build, Sem.run_bind, hzv, Result.andThen_ok, run_underlying hu, run_sizeOf' hs]
        simp only [Array.toArray_toList] at hfill
        rw [hfill]
        rfl
      · cases he
    · cases he
  · cases he

theorem rep_range (z : List Value) (hz : 0 < z.length) : ∀ n, (Array.range (n * z.length)).map (fun i => z.toArray[i % z.toArray.size]!) = (List.replicate n z).flatten.toArray
  | 0 => by simp
  | n + 1 => by
    have ih := rep_range z hz n
    have e : (List.replicate (n + 1) z).flatten = (List.replicate n z).flatten ++ z := by
      rw [List.replicate_succ', List.flatten_append]; simp
    rw [e]
    have e2 : (n + 1) * z.length = n * z.length + z.length := by rw [Nat.succ_mul]
    apply Array.ext'
    have ih' := congrArg Array.toList ih
    simp only [Array.toList_map, Array.toList_range] at ih' ⊢
    rw [e2, List.range_add, List.map_append, ih']
    congr 1
    rw [List.map_map]
    apply List.ext_getElem
    · simp
    · intro i h1 h2
      simp only [List.getElem_map, List.getElem_range, Function.comp]
      have : (n * z.length + i) % z.toArray.size = i := by
        simp at h1
        simp [Nat.mod_eq_of_lt h1]
      rw [this]
      simp at h1
      simp [h1]

theorem RL_rep {z : List SV} {us : List Value} (hz : RL σ m z us) : ∀ n, RL σ m (rep z n) (List.replicate n us).flatten
  | 0 => by simp [rep, RL_nil]
  | n + 1 => by
    rw [List.replicate_succ, List.flatten_cons]
    unfold rep
    exact RL_append hz (RL_rep hz n)

theorem evBuildSlice_sound (H : RW σ β m h w) {t : TypeId} {len : Nat} {parts : List (Nat × SV)} {parts' : List (Nat × Value)} {r : SV × Hp} (he : evBuildSlice P h t len parts = some r)
    (h1 : parts.map (·.1) = parts'.map (·.1)) (h2 : RL σ m (parts.map (·.2)) (parts'.map (·.2))) : VR σ β P m (Instr.buildSlice t len parts'.toArray) w r.1 r.2 := by
  unfold evBuildSlice at he
  split at he
  · rename_i elem hu
    split at he
    · rename_i size z hs hz
      split at he
      · rename_i hc
        simp only [Bool.and_eq_true, beq_iff_eq, decide_eq_true_eq] at hc
        obtain ⟨⟨⟨ht, hzl⟩, hpos⟩, hbig⟩ := hc
        obtain ⟨cs, hf, rfl⟩ := Option.map_eq_some_iff.1 he
        obtain ⟨zv, hzv, rfl, _⟩ := run_zero' hz
        have hzr := cells_told ht (R_ofV σ m zv)
        have hzlen := RL_length hzr
        obtain ⟨us', hfill, hr'⟩ := fill_sound hf (RL_rep hzr len) h1 h2
        have hcells : (Array.range (len * size)).map (fun i => zv.cells[i % zv.cells.size]!) = (List.replicate len zv.cells.toList).flatten.toArray := by
          have := rep_range zv.cells.toList (by omega) len
          rw [hzlen, hzl] at this
          simpa using this
        refine ⟨.slice (some ⟨w.heap.size, 0, none⟩) len len, w.alloc (.cells us'.toArray elem), m.new w.heap.size, m.le_new _, H.new (RO_new (RL_mono (m.le_new _) _ _ hr') elem), ?_, ?_⟩
        · unfold R; exact ⟨w.heap.size, len, by simp [Md.new, ← H.lenρ], rfl, rfl⟩
        · by_cases h0 : len = 0
          · subst h0
            have e0 : Array.map (fun i => zv.cells[i % zv.cells.size]!) (Array.range (0 * size)) = #[] := by simp
            simp only [List.replicate_zero, List.flatten_nil] at hfill
            simp only [Instr.buildSlice, Sem.run_bind, run_underlying hu, Result.andThen_ok, run_sizeOf' hs, Sem.run_ite]
            rw [if_neg (by simp), if_pos (by simp)]
            simp only [Sem.run_pure, Result.andThen_ok]
            have e1 : Array.map (fun i => (#[] : Array Value)[i % (#[] : Array Value).size]!) (Array.range (0 * size)) = #[] := by simp
            rw [e1, hfill]
            simp [newRow_run]
          · have h0' : ¬ len * size = 0 := by
              have := Nat.mul_ne_zero h0 (by omega : size ≠ 0); omega
            have hbig' : ¬ len * size > 2 ^ 24 := by
              have : 2 ^ 24 = 16777216 := rfl
              omega
            simp only [Instr.buildSlice, Sem.run_bind, run_underlying hu, Result.andThen_ok, run_sizeOf' hs, Sem.run_ite, if_neg hbig', if_neg h0', hzv, Sem.run_pure]
            rw [hcells]
            rw [hfill]
            simp [newRow_run]
      · cases he
    · cases he
  · cases he

end

end Go.Sy
