/- Whatever is asked of the counters, and whatever happens, is told, and comes to, what the document says: for every list of things that are done. -/
import Derived.Test.YtogfjdbkkhnmhaaRows
import Derived.ProofKit
import Derived.Deep.Slices
import Derived.Deep.Fields
import Derived.Below
import Derived.Carry
import Derived.Test.YtogfjdbkkhnmhaaPmuQ
namespace Go.Proofs.Ytogfjdbkkhnmhaa
open Go.ChangeShapes Go.WideShapes Go.ChangeAt Go.RowKit Go.Deep

section
variable {H : Type} {enc : TypeId × Value → H} {P : Program} {w : World} {base : Nat} {spare : Nat → Bool} {held : Bool}
theorem open_slice_fields {t e : TypeId} {fs : Array Field} {fuel : Nat} {cs : List Value} {x : DataW H × List MemPlace} (ht : P.underlying t = some (.slice e)) (he : P.underlying e = some (.struct fs))
    (hone : oneCellFields P fs = true) (hC : P.cellsOf e = fs.size) (h : DataW.trod enc P w base spare held fuel t cs = some x) :
    (cs = [.slice none 0 0] ∧ x = (.nil, [])) ∨
    ∃ (a : Addr) (len cap m : Nat) (D : Nat → DataW H) (Pl : Nat → List MemPlace), cs = [.slice (some a) len cap] ∧ base ≤ a.block ∧ len ≤ cap ∧ cap ≤ maxLen ∧ m = (if spare a.block then cap else len) ∧
      x = (.slice ((List.range len).map D) ((List.range (m - len)).map fun j => D (len + j)), MemPlace.row a (m * fs.size) ++ (List.range m).flatMap Pl) ∧
      ∀ i, i < m → ∃ (ys : List (DataW H × List MemPlace)) (n : Nat), D i = .agg (ys.map (·.1)) ∧ Pl i = ys.flatMap (·.2) ∧ ys.length = fs.size ∧
        ∀ (j : Nat) (f : Field), fs[j]? = some f → ∃ (v : Value) (y : DataW H × List MemPlace), w.cell? (a.add (i * fs.size + j)) = some v ∧ ys[j]? = some y ∧ DataW.trod enc P w base spare held n f.type [v] = some y := by
  rcases open_slice ht h with h0 | ⟨a, len, cap, m, n, D, Pl, hcs, hb, hl, hm, hmm, hx, hi⟩
  · exact .inl h0
  · refine .inr ⟨a, len, cap, m, D, Pl, hcs, hb, hl, hm, hmm, by rw [hC] at hx; exact hx, fun i him => ?_⟩
    obtain ⟨cs', hc, ht'⟩ := hi i him
    rw [hC] at hc
    obtain ⟨ys, n', hn', hy, hlen, hyl, hf⟩ := DataW.trod_struct he ht'
    obtain ⟨_, hcl, hat⟩ := World.cells?_some hc
    simp only [Prod.mk.injEq] at hy
    refine ⟨ys, n', hy.1, hy.2, hyl, fun j f hj => ?_⟩
    obtain ⟨ho, hk⟩ := hone_of hone j f hj
    have hjl : j < fs.size := (Array.getElem?_eq_some_iff.1 hj).1
    have hcell := hat j hjl
    have hv : cs'[j]? = some (cs'[j]'(by omega)) := List.getElem?_eq_getElem (by omega)
    have h1 := hf j f hj
    rw [ho, hk] at h1
    have hone' : (cs'.drop j).take 1 = [cs'[j]'(by omega)] := by
      rw [List.drop_eq_getElem_cons (by omega)]
      rfl
    rw [hone'] at h1
    have hys : ys[j]? = some (ys[j]'(by omega)) := List.getElem?_eq_getElem (by omega)
    refine ⟨_, _, ?_, hys, h1.trans hys⟩
    rw [← Go.Deep.add_add, hcell, hv]

theorem post_of_below {f : Func} {s : ChangeSpec} {apart fresh handsOn again : Bool} {W W' : World} {args : Array Value} {v : Value} {ds gs : List (DataW H)} {before pa pv : List MemPlace}
    (hW : DataW.Whole enc P f.params.toList s.vars apart W args.toList ds gs before)
    (hres : ∀ (b : Nat) (sp : Nat → Bool) (hd : Bool), DataW.TrodAll enc P W' b sp hd f.resultTypes.toList (v.resultList f.resultTypes.size) (s.fn H (ds ++ gs)).results [])
    (hargs : ∀ sp : Nat → Bool, (∀ p ∈ before, sp p.block = true) → DataW.TrodAll enc P W' 0 sp true f.params.toList args.toList (s.fn H (ds ++ gs)).args pa)
    (hvars : ∀ sp : Nat → Bool, (∀ p ∈ before, sp p.block = true) → DataW.TrodVars enc P W' sp s.vars (s.fn H (ds ++ gs)).vars pv)
    (hps : before = pa ++ pv) (hb : Below W.heap.size W W')
    (hok : ∀ (j : Nat) (t : TypeId) (r : Value), f.resultTypes[j]? = some t → (v.resultList f.resultTypes.size)[j]? = some r → Value.okWide P W' .any 0 t r) :
    s.post enc P f apart fresh handsOn again W args v W' := by
  have hlt : ∀ p ∈ before, p.block < W.heap.size := fun p hp => hW.lt p hp
  have hold : ∀ p ∈ before, (fun b => decide (b < W.heap.size)) p.block = true := fun p hp => by simpa using hlt p hp
  refine ⟨ds, gs, before, [], pa, pv, hW, hres _ _ _, hargs _ hold, hvars _ hold, World.keptBut_mono (fun p hp => ⟨hp, ?_⟩) (hb.frame (· ∈ before)), fun _ => ?_⟩
  · rw [hps, List.mem_append] at hp
    exact Or.inr hp
  · obtain ⟨_, _, _, _, _, hz, hn⟩ := hW
    refine ⟨hok, _, _, ([] ++ pa) ++ pv, ⟨[] ++ pa, pv, trodAll_append (hargs _ (fun _ _ => rfl)) (hres _ _ _), hvars _ (fun _ _ => rfl), rfl, ?_, ?_⟩, ?_⟩
    · intro b off hp
      have hin : MemPlace.cell b off ∈ before := by rw [hps]; simpa using hp
      rw [hb.frozen (hlt _ hin)]
      exact hz b off hin
    · intro ha
      have := hn ha
      rw [hps] at this
      simpa using this
    · intro p hp _
      rw [hps]
      simpa using hp
end

theorem Try.own : ownKnob Try.prog.godebug = none := by kernel_rfl
theorem Try.laidOut : laidOutB Try.prog = true := by kernel_rfl

noncomputable def fs34 : Array Field := Go.Sy.Pm.f34
theorem fs34_size : fs34.size = 5 := by kernel_rfl
theorem fs34_one : oneCellFields Try.prog fs34 = true := by kernel_rfl
theorem fs34_cells : Try.prog.cellsOf 34 = fs34.size := by kernel_rfl
def kindOf (j : Nat) : IntKind := match j with
  | 0 => .u8
  | _ => .u64
theorem fs34_types : ∀ j, j < 5 → ∃ f, fs34[j]? = some f ∧ Try.prog.underlying f.type = some (.int (kindOf j)) := by
  have h : ((List.range 5).all fun j => match fs34[j]? with
    | some f => match Try.prog.underlying f.type with
      | some (.int k) => Go.Sy.kindIs k (kindOf j)
      | _ => false
    | none => false) = true := by kernel_rfl
  intro j hj
  have := List.all_eq_true.1 h j (List.mem_range.2 hj)
  split at this
  · rename_i f hf
    split at this
    · rename_i k hk
      rw [Go.Sy.kindIs_iff] at this
      exact ⟨f, hf, by rw [hk, this]⟩
    · cases this
  · cases this

theorem wf_u8 {n : Int} (h : (Lit.int .u8 n).wf = true) : ∃ m : Nat, n = m ∧ m < 256 := by
  simp [Lit.wf, IntKind.min, IntKind.max, IntKind.signed, IntKind.bits] at h
  exact ⟨n.toNat, by omega, by omega⟩
theorem wf_u64 {n : Int} (h : (Lit.int .u64 n).wf = true) : ∃ m : Nat, n = m ∧ m < 18446744073709551616 := by
  simp [Lit.wf, IntKind.min, IntKind.max, IntKind.signed, IntKind.bits] at h
  exact ⟨n.toNat, by omega, by omega⟩

/-- Each element's five numbers. -/
theorem list_in {H : Type} {enc : TypeId × Value → H} {W : World} {r : Reach} {b0 : Nat} {v : Value} {d : DataW H} {ps : List MemPlace} (hok : Value.okWide Try.prog W r b0 22 v) (h : DataW.Trod enc Try.prog W 0 (fun _ => true) true 22 v d ps) :
    ∃ (A : Option Addr) (len cap : Nat) (f : Nat → Nat → Nat), v = .slice A len cap ∧ Go.Sy.Pm.ListIn W A len f := by
  obtain ⟨A0, l0, c0, rfl⟩ := okWide_slice Go.Sy.Pm.u22 hok
  obtain ⟨fuel, hf⟩ := h
  rcases open_slice_fields Go.Sy.Pm.u22 (fs := fs34) Go.Sy.Pm.u34 fs34_one fs34_cells hf with ⟨h0, _⟩ | ⟨a, len, cap, m, D, Pl, hcs, hb, hl, hm, hmm, hx, hi⟩
  · refine ⟨none, 0, 0, fun _ _ => 0, ?_, by decide, fun i hi => absurd hi (by omega), fun i hi => absurd hi (by omega), fun i hi => absurd hi (by omega)⟩
    simpa [Value.cells] using h0
  · have hv : Value.slice A0 l0 c0 = .slice (some a) len cap := by simpa [Value.cells] using hcs
    have hm' : m = cap := by simpa using hmm
    have hnum : ∀ i, i < len → ∃ g : Nat → Nat, g 0 < 256 ∧ (∀ j, g j < 18446744073709551616) ∧ ∀ j, j < 5 → W.cell? (a.add (i * 5 + j)) = some (.int (kindOf j) (g j)) := by
      intro i hil
      obtain ⟨ys, n, _, _, _, hcell⟩ := hi i (by omega)
      have hj : ∀ j, j < 5 → ∃ q : Nat, (j = 0 → q < 256) ∧ q < 18446744073709551616 ∧ W.cell? (a.add (i * 5 + j)) = some (.int (kindOf j) q) := by
        intro j hj
        obtain ⟨fl, hfl, hu⟩ := fs34_types j hj
        obtain ⟨u, y, hc, _, ht⟩ := hcell j fl hfl
        rw [fs34_size] at hc
        obtain ⟨q, hq, _, hwf⟩ := DataW.trod_int hu ht
        cases hq
        by_cases h0 : j = 0
        · subst h0
          obtain ⟨p, rfl, hp⟩ := wf_u8 hwf
          exact ⟨p, fun _ => hp, by omega, hc⟩
        · have hk : kindOf j = .u64 := by cases j with
            | zero => exact absurd rfl h0
            | succ j => rfl
          rw [hk] at hwf
          obtain ⟨p, rfl, hp⟩ := wf_u64 hwf
          exact ⟨p, fun h => absurd h h0, hp, hc⟩
      obtain ⟨g, hg⟩ := choose_lt hj
      refine ⟨fun j => if j < 5 then g j else 0, by simpa using (hg 0 (by omega)).1 rfl, fun j => ?_, fun j hj5 => ?_⟩
      · by_cases h5 : j < 5
        · simp only [h5, if_true]; exact (hg j h5).2.1
        · simp only [h5, if_false]; decide
      · simp only [hj5, if_true]; exact (hg j hj5).2.2
    obtain ⟨f, hf⟩ := choose_lt hnum
    refine ⟨some a, len, cap, f, hv, ?_, fun i hil => (hf i hil).1, fun i hil j => (hf i hil).2.1 j, fun i hil => ⟨a, rfl, fun j v hj => ?_⟩⟩
    · unfold maxLen at hm; omega
    · have hc := (hf i hil).2.2
      rw [Go.Deep.add_add]
      have hj5 : j < 5 := (List.getElem?_eq_some_iff.1 hj).1
      have : j = 0 ∨ j = 1 ∨ j = 2 ∨ j = 3 ∨ j = 4 := by omega
      rcases this with rfl | rfl | rfl | rfl | rfl <;> (cases hj; exact hc _ (by omega))

set_option maxRecDepth 100000 in
theorem plays_lifted (os : Os) (started : os.Started) (H : Type) (enc : TypeId × Value → H) :
    ReturnsInHanded {} Try.checked os 3 .any (Rows.pmuPlaysSpec.pre6 enc Try.prog Try.f3 Rows.pmuPlaysRow.domain false) (Rows.pmuPlaysSpec.post enc Try.prog Try.f3 false true false false) := by
  refine returnsInHanded_of_change (C := Try.checked) Try.own started (by kernel_rfl) Try.func3
    (ChangeSpec.witness6 (enc := enc) (C := Try.checked) false ⟨#[], #[.slice none 0 0], []⟩ 8 (by kernel_rfl) (by kernel_rfl) (by kernel_rfl) (by kernel_rfl)) ?_
  intro W base args ds gs before hval0 hW hcnd _
  have hW' := hW
  obtain ⟨p, q, hA0, hV, rfl, hfz, hnd⟩ := hW
  have hval : ∀ (j : Nat) t v, Try.f3.params[j]? = some t → args[j]? = some v → Value.okWide Try.prog W .any base t v := hval0
  have hA : DataW.TrodAll enc Try.prog W 0 (fun _ => true) true Try.f3.params.toList args.toList ds p := hA0
  rw [Try.params3] at hA hval
  obtain ⟨v0, d0, rfl, rfl, h0⟩ := trodAll_one hA
  obtain ⟨rfl, rfl⟩ := trodVars_none hV
  obtain ⟨A, len, cap, f, rfl, hL⟩ := list_in (hval 0 22 v0 rfl rfl) h0
  clear hA0 hval0
  simp only [List.append_nil] at hW'
  refine (Go.Sy.Pm.plays_any (cap := cap) hL).mono fun e W' ⟨he, hb⟩ => ?_
  subst he
  have hlt : ∀ x ∈ p, x.block < W.heap.size := fun x hx => by simpa using hW'.lt x hx
  have harg : ∀ sp : Nat → Bool, (∀ x ∈ p, sp x.block = true) → DataW.Trod enc Try.prog W' 0 sp true 22 (.slice A len cap) d0 p := fun sp hsp =>
    WideElems.Trod_stays Try.laidOut (by kernel_rfl) (of_decide_eq_true (by kernel_rfl)) h0 (fun x hx => hb.same (hlt x hx)) hsp
  exact ⟨_, rfl, post_of_below (pa := p) (pv := []) hW' (fun _ _ _ => trodAll_mk1 (shut_bool (by kernel_rfl) _)) (fun sp hsp => trodAll_mk1 (harg sp hsp)) (fun _ _ => rfl) (by simp)
    hb (ok_one (t := 4) (by kernel_rfl) rfl (okWide_bool_mk (by kernel_rfl) _))⟩

theorem plays_holds : Rows.PmuPlaysSaid :=
  OpenClaim.holds_of_wide 3 Try.f3 rfl rfl rfl rfl rfl rfl rfl ⟨rfl, rfl, rfl, rfl, rfl⟩ rfl rfl rfl rfl rfl (by kernel_rfl) Try.func3 (by kernel_rfl)
    (of_decide_eq_true (by kernel_rfl)) (by unfold Func.isWrapper; first | (rw [if_pos (by decide +kernel)]; kernel_rfl) | (rw [if_neg (by decide +kernel)]; exact ⟨rfl, rfl⟩))
    (fun os started H enc _ => plays_lifted os started H enc)

end Go.Proofs.Ytogfjdbkkhnmhaa
#print axioms Go.Proofs.Ytogfjdbkkhnmhaa.plays_holds
