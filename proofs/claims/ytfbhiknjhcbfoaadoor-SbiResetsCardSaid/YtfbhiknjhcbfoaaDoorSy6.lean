/- A symbolic evaluator for the model's programs: loads, stores, new blocks. -/
import Derived.Test.YtfbhiknjhcbfoaaDoorSy5
namespace Go.Sy

section
variable {σ : Vl} {β : Bs} {P : Program}

/-! ## the program's tables -/

theorem info_of {t : TypeId} {n : Nat} (h : tySize P t = some n) : ∃ i, P.info? t = some i ∧ i.size = n := by
  unfold tySize at h
  obtain ⟨i, h1, h2⟩ := Option.map_eq_some_iff.1 h
  exact ⟨i, h1, h2⟩

theorem run_typeInfo' {t : TypeId} {i : TypeInfo} (h : P.info? t = some i) (w : World) : (typeInfo t).run P w = .ok i w := by
  simp [typeInfo, h]

theorem run_sizeOf' {t : TypeId} {n : Nat} (h : tySize P t = some n) (w : World) : (sizeOf t).run P w = .ok n w := by
  obtain ⟨i, h1, h2⟩ := info_of h
  simp [sizeOf, run_typeInfo' h1, h2]

theorem run_zero' {t : TypeId} {z : SV} (h : tyZero P t = some z) : ∃ v, (∀ w, (zeroValue t).run P w = .ok v w) ∧ z = ofV v ∧ ∃ i, P.info? t = some i ∧ i.zero = some v := by
  unfold tyZero at h
  obtain ⟨v, h1, h2⟩ := Option.map_eq_some_iff.1 h
  obtain ⟨i, h3, h4⟩ := Option.bind_eq_some_iff.1 h1
  exact ⟨v, fun w => by simp [zeroValue, run_typeInfo' h3, h4], h2.symm, i, h3, h4⟩

theorem run_isAgg' {t : TypeId} {b : Bool} (h : tyAgg P t = some b) (w : World) : (isAgg t).run P w = .ok b w := by
  unfold tyAgg at h
  cases hu : P.underlying t with
  | none => rw [hu] at h; cases h
  | some d =>
    rw [hu] at h
    simp only [isAgg, Sem.run_bind, run_underlying hu, Result.andThen_ok]
    cases d <;> simp_all

/-! ## cells -/

theorem addr_add (B o n : Nat) : (⟨B, o, none⟩ : Addr).add n = ⟨B, o + n, none⟩ := by
  unfold Addr.add; split
  · rename_i h; subst h; rfl
  · rfl

theorem cell_at {w : World} {B : Nat} {c : Array Value} {el : TypeId} {F : Nat × Nat} (h : w.heap[B]? = some (.cells c el F)) (i : Nat) : w.cell? ⟨B, i, none⟩ = c[i]? := by
  simp [World.cell?, h]

theorem run_loadCells_at {w : World} {B o : Nat} {l : List Value} {el : TypeId} {F : Nat × Nat} (h : w.heap[B]? = some (.cells l.toArray el F)) (n : Nat) (hl : ((l.drop o).take n).length = n) :
    (loadCells ⟨B, o, none⟩ n).run P w = .ok ((l.drop o).take n).toArray w := by
  have := run_loadCells_list (P := P) w ⟨B, o, none⟩ ((l.drop o).take n) (fun j v hj => by
    rw [addr_add, cell_at h]
    have hj' : j < n := by
      have := (List.getElem?_eq_some_iff.1 hj).1; omega
    rw [List.getElem?_take_of_lt hj', List.getElem?_drop] at hj
    simpa using hj)
  rwa [hl] at this

theorem cut_some {l : List SV} {o n : Nat} {s : List SV} (h : cut l o n = some s) : s = (l.drop o).take n ∧ s.length = n := by
  simp only [cut] at h
  split at h
  · rename_i e; cases h; exact ⟨rfl, e⟩
  · cases h

theorem one_cell {σ : Vl} {m : Md} {v : SV} {v' : Value} (h : v.one = true) (hr : R σ m v v') : v'.oneCell' = true := by
  cases v with
  | bad => cases h
  | agg _ => cases h
  | tup _ => cases h
  | opq _ => cases h
  | bool b => unfold R at hr; subst hr; rfl
  | int _ _ => unfold R at hr; subst hr; rfl
  | str _ => unfold R at hr; subst hr; rfl
  | ptr a => cases a with
    | none => unfold R at hr; subst hr; rfl
    | some p => unfold R at hr; obtain ⟨B, _, rfl⟩ := hr; rfl
  | sl a n c => cases a with
    | none => unfold R at hr; obtain ⟨C, _, rfl⟩ := hr; rfl
    | some p => unfold R at hr; obtain ⟨B, C, _, _, rfl⟩ := hr; rfl
  | map r => cases r with
    | none => unfold R at hr; subst hr; rfl
    | some p => unfold R at hr; obtain ⟨B, _, rfl⟩ := hr; rfl
  | func _ _ _ => unfold R at hr; obtain ⟨_, _, rfl, _⟩ := hr; rfl
  | nilFunc => unfold R at hr; subst hr; rfl
  | iface _ _ => unfold R at hr; obtain ⟨_, rfl, _⟩ := hr; rfl
  | nilIface => unfold R at hr; subst hr; rfl

theorem cells_told {σ : Vl} {m : Md} {v : SV} {v' : Value} (h : v.told = true) (hr : R σ m v v') : RL σ m v.cells v'.cells.toList := by
  cases v with
  | bad => cases h
  | opq _ => cases h
  | agg cs => unfold R at hr; obtain ⟨vs, rfl, h⟩ := hr; simpa [SV.cells, Value.cells] using h
  | tup cs =>
    have hr' := hr
    unfold R at hr; obtain ⟨vs, rfl, _⟩ := hr
    simp only [SV.cells, Value.cells]; rw [RL_cons']; exact ⟨hr', RL_nil.2 rfl⟩
  | _ =>
    have h1 := one_cell (v := _) rfl hr
    have : v'.cells = #[v'] := by cases v' <;> first | rfl | cases h1
    rw [this]; simp only [SV.cells]; rw [RL_cons']; exact ⟨hr, RL_nil.2 rfl⟩

theorem storable_cells {σ : Vl} {m : Md} : ∀ {vs : List SV} {us : List Value}, storable vs = true → RL σ m vs us → ∀ u ∈ us, u.oneCell' = true
  | [], us, _, h, u, hu => by rw [RL_nil] at h; subst h; simp at hu
  | v :: vs, us, hs, h, u, hu => by
    rw [RL_cons] at h
    obtain ⟨w, ws, rfl, h1, h2⟩ := h
    simp only [storable, List.all_cons, Bool.and_eq_true] at hs
    simp only [List.mem_cons] at hu
    rcases hu with rfl | hu
    · exact one_cell hs.1 h1
    · exact storable_cells (vs := vs) hs.2 h2 u hu

/-! ### stores -/

theorem setRow_turned (w : World) (g : Nat) (cs : Array Value) (cur : Array Value) (el : TypeId) (F : Nat × Nat) (hg : w.heap[g]? = some (.cells cur el F)) :
    Turned g (.cells cs el F) w (w.setRow g cs) where
  at_ := setRow_heap w g cur cs el F hg
  other := fun b hb => by
    simp only [World.setRow, Array.getElem?_modify]
    rw [if_neg (by omega)]
  size := by simp [World.setRow]
  tape := rfl
  os := rfl
  out := rfl

theorem storeCells_fz (P : Program) (g o : Nat) (t : TypeId) (F : Nat × Nat) : ∀ (vs : List Value) (i : Nat) (cur : Array Value) (w : World), w.heap[g]? = some (.cells cur t F) → o + i + vs.length ≤ cur.size →
    (∀ v ∈ vs, v.oneCell' = true) → (∀ j, j < cur.size → ¬ (F.1 ≤ j ∧ j < F.2)) →
    (storeCells ⟨g, o, none⟩ vs i).run P w = .ok () (w.setRow g (cur.toList.take (o + i) ++ vs ++ cur.toList.drop (o + i + vs.length)).toArray)
  | [], i, cur, w, hg, _, _, _ => by
    simp only [storeCells, List.append_nil, List.length_nil, Nat.add_zero, List.take_append_drop, Array.toArray_toList]
    rw [setRow_self w g cur t F hg]
    rfl
  | v :: rest, i, cur, w, hg, hl, h1, hF => by
    have hi : o + i < cur.size := by simp at hl; omega
    have hcell : w.cell? ⟨g, o + i, none⟩ = some cur[o + i] := by simp [World.cell?, hg, hi]
    have hfro : w.frozen? ⟨g, o + i, none⟩ = false := by
      have := hF (o + i) hi
      simp only [World.frozen?, hg, Bool.and_eq_false_iff, decide_eq_false_iff_not]
      by_cases h : F.1 ≤ o + i
      · right; exact fun h' => this ⟨h, h'⟩
      · left; exact h
    have hst : (store ((⟨g, o, none⟩ : Addr).add i) v).run P w = .ok () (w.setRow g (cur.setIfInBounds (o + i) v)) := by
      rw [addr_add, run_store P w _ v _ (h1 v (by simp)), hcell]
      simp [hfro, setCell_eq_setRow w g (o + i) cur t F v hg]
    have ih := storeCells_fz P g o t F rest (i + 1) (cur.setIfInBounds (o + i) v) (w.setRow g (cur.setIfInBounds (o + i) v)) (setRow_heap w g cur _ t _ hg) (by simp at hl ⊢; omega) (fun x hx => h1 x (by simp [hx]))
      (fun j hj => hF j (by simpa using hj))
    simp only [storeCells, Sem.run_bind, hst, Result.andThen_ok, ih, setRow_setRow]
    congr 3
    have e := list_seg_step cur.toList (o + i) v rest (by simp at hl ⊢; omega)
    simpa [Array.toList_setIfInBounds, Nat.add_assoc] using e

theorem splice_some {l : List SV} {o : Nat} {vs l' : List SV} (h : splice l o vs = some l') : o + vs.length ≤ l.length ∧ l' = l.take o ++ vs ++ l.drop (o + vs.length) := by
  unfold splice at h
  split at h
  · rename_i e; cases h; exact ⟨e, rfl⟩
  · cases h

theorem RL_splice {σ : Vl} {m : Md} {l : List SV} {o : Nat} {vs l' : List SV} {us ws : List Value} (h : splice l o vs = some l') (h1 : RL σ m l us) (h2 : RL σ m vs ws) :
    RL σ m l' (us.take o ++ ws ++ us.drop (o + ws.length)) := by
  obtain ⟨_, rfl⟩ := splice_some h
  rw [RL_length h2]
  exact RL_append (RL_append (RL_take _ h1) h2) (RL_drop _ h1)

/-- Behind a store of some cells into a block that is known. -/
theorem RW.store {m : Md} {h : Hp} {w : World} (H : RW σ β m h w) {b B o : Nat} {cs : List SV} {el : TypeId} {sl : Option (Nat × Nat)} {fz : Nat × Nat} (hb : objCells h b = some (cs, el, sl, fz)) (hB : m.ρ[b]? = some B)
    (hfz : fz = (0, 0)) {vs cs' : List SV} (hs : splice cs o vs = some cs') {us : List Value} (hus : RL σ m vs us) (h1 : ∀ u ∈ us, u.oneCell' = true) :
    ∃ w', (storeCells ⟨B, o, none⟩ us 0).run P w = .ok () w' ∧ RW σ β m (h.put b (.cells cs' el sl fz)) w' := by
  obtain ⟨vs0, ex, F, hg, hheap, hr, hF, hsl⟩ := H.cells hb hB
  obtain ⟨hle, _⟩ := splice_some hs
  have hlen := RL_length hr
  have hlen2 := RL_length hus
  have hst := storeCells_fz P B o el F us 0 (vs0 ++ ex).toArray w hheap (by simp; omega) h1 (by
    intro j hj
    subst hfz
    rcases hF with rfl | ⟨_, rfl⟩
    · simp
    · simp at hj ⊢; omega)
  refine ⟨_, hst, ?_⟩
  refine H.put hg hB (O' := .cells ((vs0 ++ ex).toArray.toList.take (o + 0) ++ us ++ (vs0 ++ ex).toArray.toList.drop (o + 0 + us.length)).toArray el F) ?_ (setRow_turned _ _ _ _ _ _ hheap)
  have e1 : (vs0 ++ ex).take o = vs0.take o := by rw [List.take_append_of_le_length (by omega)]
  have e2 : (vs0 ++ ex).drop (o + us.length) = vs0.drop (o + us.length) ++ ex := by rw [List.drop_append_of_le_length (by omega)]
  refine ⟨vs0.take o ++ us ++ vs0.drop (o + us.length), ex, F, ?_, RL_splice hs hr hus, ?_, ?_⟩
  · simp [e1, e2]
  · have : (vs0.take o ++ us ++ vs0.drop (o + us.length)).length = vs0.length := by simp; omega
    rw [this]; exact hF
  · have : (vs0.take o ++ us ++ vs0.drop (o + us.length)).length = vs0.length := by simp; omega
    rw [this]; exact hsl

/-! ## what an operation that hands back a value comes to -/

def VR (σ : Vl) (β : Bs) (P : Program) (m : Md) (s : Sem Value) (w : World) (v : SV) (h' : Hp) : Prop :=
  ∃ v' w' m', m.le m' ∧ RW σ β m' h' w' ∧ R σ m' v v' ∧ s.run P w = .ok v' w'

theorem VR.pure {m : Md} {h : Hp} {w : World} (H : RW σ β m h w) {s : Sem Value} {v : SV} {v' : Value} (hv : R σ m v v') (hs : s.run P w = .ok v' w) : VR σ β P m s w v h :=
  ⟨v', w, m, m.le_refl, H, hv, hs⟩

/-- In every world that fits: one value, and the world as it was. -/
def VP (σ : Vl) (β : Bs) (P : Program) (m : Md) (h : Hp) (s : Sem Value) (v : SV) : Prop :=
  ∀ w, RW σ β m h w → ∃ v', R σ m v v' ∧ s.run P w = .ok v' w

theorem VP.vr {m : Md} {h : Hp} {w : World} {s : Sem Value} {v : SV} (hv : VP σ β P m h s v) (H : RW σ β m h w) : VR σ β P m s w v h := by
  obtain ⟨v', h1, h2⟩ := hv w H
  exact VR.pure H h1 h2

theorem evLoad_sound {m : Md} {h : Hp} {t : TypeId} {a v : SV} {a' : Value} (he : evLoad P h t a = some v) (ha : R σ m a a') :
    VP σ β P m h (Instr.loadAt t a') v := by
  intro w H
  unfold evLoad at he
  split at he
  · rename_i b o
    unfold R at ha
    obtain ⟨B, hB, rfl⟩ := ha
    split at he
    · rename_i cs el sl fz hb
      obtain ⟨vs0, ex, F, hg, hheap, hr, hF, hsl⟩ := H.cells hb hB
      split at he
      · rename_i hagg
        split at he
        · rename_i n hn
          obtain ⟨s, hs, rfl⟩ := Option.map_eq_some_iff.1 he
          obtain ⟨rfl, hlen⟩ := cut_some hs
          have hr' := RL_take n (RL_drop o hr)
          have hl' := RL_length hr'
          have e : ((vs0 ++ ex).drop o).take n = (vs0.drop o).take n := by
            by_cases h0 : n = 0
            · subst h0; simp
            · have : o + n ≤ vs0.length := by
                have := RL_length hr
                simp at hlen; omega
              rw [List.drop_append_of_le_length (by omega), List.take_append_of_le_length (by simp; omega)]
          refine ⟨.agg ((vs0.drop o).take n).toArray, ?_, ?_⟩
          · unfold R; exact ⟨_, rfl, hr'⟩
          · have := run_loadCells_at (P := P) (o := o) hheap n (by rw [e, hl', hlen])
            simp [Instr.loadAt, Instr.sureAddr, loadVar, run_isAgg' hagg, run_sizeOf' hn, this, e]
        · cases he
      · rename_i hagg
        obtain ⟨u, hu, hru⟩ := RL_get hr o v he
        refine ⟨_, hru, ?_⟩
        have : w.cell? ⟨B, o, none⟩ = some u := by
          have hlt := (List.getElem?_eq_some_iff.1 hu).1
          rw [cell_at hheap, List.getElem?_toArray, List.getElem?_append_left hlt]
          exact hu
        simp [Instr.loadAt, Instr.sureAddr, loadVar, run_isAgg' hagg, this]
      · cases he
    · cases he
  · cases he

theorem evStore_sound {m : Md} {h h' : Hp} {w : World} (H : RW σ β m h w) {t : TypeId} {a v : SV} {a' v' : Value} (he : evStore P h t a v = some h') (ha : R σ m a a') (hv : R σ m v v') :
    ∃ w', (Instr.storeAt t a' v').run P w = .ok () w' ∧ RW σ β m h' w' := by
  unfold evStore at he
  split at he
  · rename_i b o
    unfold R at ha
    obtain ⟨B, hB, rfl⟩ := ha
    split at he
    · rename_i cs el sl fz hb
      split at he
      · rename_i hc
        simp only [Bool.and_eq_true, beq_iff_eq] at hc
        obtain ⟨⟨⟨ht, hst⟩, hsz⟩, hfz⟩ := hc
        obtain ⟨cs', hs, rfl⟩ := Option.map_eq_some_iff.1 he
        have hcs := cells_told ht hv
        obtain ⟨w', hw, H'⟩ := H.store (P := P) hb hB hfz hs hcs (storable_cells hst hcs)
        refine ⟨w', ?_, H'⟩
        have hl := RL_length hcs
        simp [Instr.storeAt, Instr.sureAddr, storeVar, run_sizeOf' hsz, ← hl, hw]
      · cases he
    · cases he
  · cases he

/-! ### new blocks -/

theorem RO_new {m : Md} {cs : List SV} {us : List Value} (h : RL σ m cs us) (el : TypeId) : RO σ m (.cells cs el none (0, 0)) (.cells us.toArray el) :=
  ⟨us, [], (0, 0), by simp, h, .inl rfl, rfl⟩

theorem newRow_run (el : TypeId) (c : Array Value) (w : World) : (newRow el c).run P w = .ok ⟨w.heap.size, 0, none⟩ (w.alloc (.cells c el)) := by
  simp [newRow]

/-- A new variable. -/
theorem RW.newVar {m : Md} {h : Hp} {w : World} (H : RW σ β m h w) (t : TypeId) {cs : List SV} {us : List Value} (hr : RL σ m cs us) {s : Sem Value}
    (hs : s.run P w = .ok (.pointer (some ⟨w.heap.size, 0, none⟩)) (w.alloc (.cells us.toArray t))) :
    VR σ β P m s w (.ptr (some (h.nx, 0))) (h.new (.cells cs t none (0, 0))) := by
  refine ⟨_, _, m.new w.heap.size, m.le_new _, H.new (RO_new (RL_mono (m.le_new _) _ _ hr) t), ?_, hs⟩
  unfold R
  exact ⟨w.heap.size, by simp [Md.new, ← H.lenρ], rfl⟩

theorem evAlloc_sound {m : Md} {h : Hp} {w : World} (H : RW σ β m h w) {t : TypeId} {z : SV} (hz : tyZero P t = some z) (ht : z.told = true) :
    VR σ β P m (Instr.alloc t true (.tuple #[])) w (.ptr (some (h.nx, 0))) (h.new (.cells z.cells t none (0, 0))) := by
  obtain ⟨v, hv, rfl, _⟩ := run_zero' hz
  refine H.newVar t (cells_told ht (R_ofV σ m v)) ?_
  simp [Instr.alloc, hv, newVar, newRow_run]

theorem evBox_sound {m : Md} {h : Hp} {w : World} (H : RW σ β m h w) {t : TypeId} {x : SV} {x' : Value} (hx : R σ m x x') (ht : x.told = true) :
    VR σ β P m (Instr.box t x') w (.ptr (some (h.nx, 0))) (h.new (.cells x.cells t none (0, 0))) := by
  refine H.newVar t (cells_told ht hx) ?_
  simp [Instr.box, newVar, newRow_run]

end

end Go.Sy
