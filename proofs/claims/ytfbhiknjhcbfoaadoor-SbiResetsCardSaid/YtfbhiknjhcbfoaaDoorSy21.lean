/- A symbolic evaluator for the model's programs: a state read as an instance of a pattern, ended. -/
import Derived.Test.YtfbhiknjhcbfoaaDoorSy20
import Derived.Below
namespace Go.Sy

def fitO (tb : List (X × X)) (θ : Sb) : SO → SO → Bool
  | .cells cs el none fz, .cells cs' el' none fz' => el == el' && fz == fz' && fitL tb θ cs cs'
  | .cells cs el (some (j, n)) fz, .cells cs' el' (some (j', n')) fz' => el == el' && fz == fz' && n == n' && θ.κ[j]? == some (.unk j') && fitL tb θ cs cs'
  | _, _ => false

def mkT (l : List SO) : Nat → T SO → T SO
  | k, t => match l with
    | [] => t
    | o :: l => mkT l (k + 1) (t.set k (some o))

theorem mkT_get : ∀ (l : List SO) (k : Nat) (t : T SO) (i : Nat), (mkT l k t).get i = if i < k then t.get i else match l[i - k]? with
    | some o => some o
    | none => t.get i
  | [], k, t, i => by unfold mkT; simp
  | o :: l, k, t, i => by
    unfold mkT
    rw [mkT_get l (k + 1) _ i, T.get_set]
    by_cases h1 : i < k
    · simp [h1, Nat.lt_succ_of_lt h1, show i ≠ k by omega]
    · by_cases h2 : i = k
      · subst h2; simp
      · have h3 : ¬ i < k + 1 := by omega
        have h4 : i - k = (i - (k + 1)) + 1 := by omega
        simp only [h1, h2, h3, if_false]
        rw [h4, List.getElem?_cons_succ]

/-- The pattern of a state: some objects, and that many slots. -/
structure Pat where
  tm : List (Nat × SV)
  nt : Nat
  os : List SO
  pc : List X

def tmT (l : List (Nat × SV)) (t : Tm) : Tm :=
  match l with
  | [] => t
  | (i, v) :: l => tmT l (t.put i v)

theorem tmT_get : ∀ (l : List (Nat × SV)) (t : Tm) (i : Nat), (tmT l t).get i = .bad ∨ (∃ v, (tmT l t).get i = v ∧ (i, v) ∈ l) ∨ (tmT l t).get i = t.get i
  | [], t, i => by unfold tmT; exact .inr (.inr rfl)
  | (j, x) :: l, t, i => by
    unfold tmT
    rcases tmT_get l (t.put j x) i with h | ⟨v, h, hm⟩ | h
    · exact .inl h
    · exact .inr (.inl ⟨v, h, List.mem_cons_of_mem _ hm⟩)
    · rw [Tm.get_put] at h
      split at h
      · rename_i e; subst e
        split at h
        · exact .inr (.inl ⟨x, h, List.mem_cons_self⟩)
        · exact .inl h
      · exact .inr (.inr h)

def Pat.st (p : Pat) (θ : Sb) : St := { tm := tmT p.tm Tm.nil, nt := p.nt, hp := ⟨mkT p.os 0 .nil, θ.π.length, θ.κ.length⟩, pc := p.pc }

def fitOs (tb : List (X × X)) (θ : Sb) (t : T SO) : List SO → List Nat → Bool
  | [], _ => true
  | o :: l, i :: π => (match t.get i with
    | some o' => fitO tb θ o o'
    | none => false) && fitOs tb θ t l π
  | _ :: _, [] => false

def nodup : List Nat → Bool
  | [] => true
  | a :: l => !(l.contains a) && nodup l

theorem nodup_inj : ∀ {l : List Nat}, nodup l = true → ∀ (i j a : Nat), l[i]? = some a → l[j]? = some a → i = j
  | [], _, i, j, a, h, _ => by simp at h
  | b :: l, hn, i, j, a, h1, h2 => by
    unfold nodup at hn
    simp only [Bool.and_eq_true, Bool.not_eq_true', List.contains_eq_mem, decide_eq_false_iff_not] at hn
    cases i with
    | zero =>
      cases j with
      | zero => rfl
      | succ j => simp at h1 h2; subst h1; exact absurd (List.mem_of_getElem? h2) hn.1
    | succ i =>
      cases j with
      | zero => simp at h1 h2; subst h2; exact absurd (List.mem_of_getElem? h1) hn.1
      | succ j => simp at h1 h2; rw [nodup_inj hn.2 i j a h1 h2]

/-- The state is an instance of the pattern. -/
def fits (tb : List (X × X)) (θ : Sb) (p : Pat) (s : St) : Bool :=
  p.tm.all (fun x => fitV tb θ x.2 (slot s.tm x.1)) && Nat.beq p.nt s.nt && fitOs tb θ s.hp.t p.os θ.π && nodup θ.π && p.pc.all (fun c => c == .tt true || s.pc.any fun c' => fitB tb θ c c')

section
variable {σ : Vl} {β : Bs} {gl : Nat → Option Nat} {tb : List (X × X)} (ht : ∀ p ∈ tb, p.1.d σ = p.2.d σ) {θ : Sb} {m : Md} {s : St} {a : Act} {w : World}

theorem fitOs_get {t : T SO} : ∀ {l : List SO} {π : List Nat}, fitOs tb θ t l π = true → ∀ (i : Nat) (o : SO), l[i]? = some o → ∃ j o', π[i]? = some j ∧ t.get j = some o' ∧ fitO tb θ o o' = true
  | [], _, _, i, o, h => by simp at h
  | o :: l, [], h, _, _, _ => by simp [fitOs] at h
  | o :: l, j :: π, h, i, q, hq => by
    unfold fitOs at h
    simp only [Bool.and_eq_true] at h
    cases i with
    | zero =>
      simp at hq; subst hq
      obtain ⟨h1, _⟩ := h
      split at h1
      · rename_i o' ho; exact ⟨j, o', by simp, ho, h1⟩
      · cases h1
    | succ i => simp at hq; obtain ⟨j', o', k1, k2, k3⟩ := fitOs_get h.2 i q hq; exact ⟨j', o', by simpa using k1, k2, k3⟩

include ht in
theorem fitO_R {o o' : SO} {O : Obj} (h : fitO tb θ o o' = true) (hr : RO σ m o' O) : RO (σ.sub θ) (m.sub θ) o O := by
  unfold fitO at h
  split at h
  · simp only [Bool.and_eq_true, beq_iff_eq] at h
    obtain ⟨⟨rfl, rfl⟩, h3⟩ := h
    obtain ⟨vs, ex, F, k1, k2, k3, k4⟩ := hr
    exact ⟨vs, ex, F, k1, fitL_R ht _ _ _ h3 k2, k3, k4⟩
  · simp only [Bool.and_eq_true, beq_iff_eq] at h
    obtain ⟨⟨⟨⟨rfl, rfl⟩, rfl⟩, h4⟩, h3⟩ := h
    obtain ⟨vs, ex, F, k1, k2, k3, k4⟩ := hr
    refine ⟨vs, ex, F, k1, fitL_R ht _ _ _ h3 k2, k3, ?_⟩
    obtain ⟨C, g1, g2⟩ := k4
    exact ⟨C, by simp [Md.sub, h4, capOf, List.getD, g1], g2⟩
  · cases h

include ht in
/-- **THE INSTANCE**: what holds of the state holds, under the values that its terms have, of the pattern. -/
theorem fits_RS {p : Pat} (hf : fits tb θ p s = true) (hg : ∀ g i, gl g = some i → θ.π[i]? = some i) (H : RS σ β gl m s a w) : RS (σ.sub θ) β gl (m.sub θ) (p.st θ) a w := by
  unfold fits at hf
  simp only [Bool.and_eq_true] at hf
  obtain ⟨⟨⟨⟨h1, h0⟩, h2⟩, h3⟩, h4⟩ := hf
  have hget : ∀ i o, (mkT p.os 0 .nil).get i = some o → p.os[i]? = some o := by
    intro i o hi
    rw [mkT_get] at hi
    simp only [Nat.not_lt_zero, if_false, Nat.sub_zero] at hi
    split at hi
    · rename_i q hq; cases hi; exact hq
    · simp at hi
  refine ⟨fun t => ?_, H.nt.trans (Nat.eq_of_beq_eq_true h0).symm, ⟨by simp [Md.sub, Pat.st], by simp [Md.sub, Pat.st], ?_, ?_, H.hp.prot, H.hp.tape, H.hp.os, H.hp.out, H.hp.size⟩, ?_, H.de, ?_⟩
  · show R _ _ ((tmT p.tm Tm.nil).get t) _
    rcases tmT_get p.tm Tm.nil t with h5 | ⟨v, h6, h5⟩ | h5
    · rw [h5]; exact R_bad _ _ _
    · rw [h6]
      have := List.all_eq_true.1 h1 _ h5
      exact fitV_R ht _ _ _ this (slot_R H t)
    · rw [h5, Tm.get_nil]; exact R_bad _ _ _
  · intro i o hi
    obtain ⟨j, o', k1, k2, k3⟩ := fitOs_get h2 i o (hget i o hi)
    obtain ⟨B, O, g1, g2, g3, g4⟩ := H.hp.obj j o' k2
    exact ⟨B, O, sub_ρ k1 g1, g2, fitO_R ht k3 g3, g4⟩
  · intro i i' o o' hi hi' e
    obtain ⟨j, q, k1, k2, _⟩ := fitOs_get h2 i o (hget i o hi)
    obtain ⟨j', q', k1', k2', _⟩ := fitOs_get h2 i' o' (hget i' o' hi')
    obtain ⟨B, O, g1, _⟩ := H.hp.obj j q k2
    obtain ⟨B', O', g1', _⟩ := H.hp.obj j' q' k2'
    rw [sub_ρ k1 g1, sub_ρ k1' g1'] at e
    have := H.hp.inj j j' q q' k2 k2' (by rw [g1, g1', e])
    subst this
    exact nodup_inj h3 i i' j k1 k1'
  · intro c hc
    have := List.all_eq_true.1 h4 c hc
    simp only [Bool.or_eq_true, beq_iff_eq] at this
    rcases this with rfl | h
    · rfl
    · obtain ⟨c', hc', hf⟩ := List.any_eq_true.1 h
      rw [fitB_d ht _ _ hf]
      exact H.pc c' hc'
  · intro g i hi
    exact sub_ρ (hg g i hi) (H.gl g i hi)

/-- All that there is stays. -/
def Bs.of (w : World) : Bs := ⟨fun b => if b < w.heap.size then w.heap[b]? else none, w.tape, w.os, w.output, w.heap.size⟩

theorem Bs.of_prot {w : World} {b : Nat} {o : Obj} (h : (Bs.of w).Pr b = some o) : w.heap[b]? = some o := by
  simp only [Bs.of] at h
  split at h
  · exact h
  · cases h

/-- From nothing of its own. -/
theorem RS_empty {tm : Tm} {nt : Nat} (htm : ∀ t, R σ ⟨[], []⟩ (tm.get t) (a.tmps.getD t undef)) (hnt : a.tmps.size = nt) (hd : a.defers = []) {pc : List X} (hp : PC σ pc) :
    RS σ (Bs.of w) (fun _ => none) ⟨[], []⟩ { tm := tm, nt := nt, hp := ⟨.nil, 0, 0⟩, pc := pc } a w where
  tm := htm
  nt := hnt
  hp := by
    refine ⟨rfl, rfl, fun i o h => ?_, fun i j o o' h => ?_, fun b o h => Bs.of_prot h, rfl, rfl, rfl, Nat.le_refl _⟩
    · simp at h
    · simp at h
  pc := hp
  de := hd
  gl := fun g i h => by cases h

theorem RW_empty : RW σ (Bs.of w) ⟨[], []⟩ ⟨.nil, 0, 0⟩ w := by
  refine ⟨rfl, rfl, fun i o h => ?_, fun i j o o' h => ?_, fun b o h => Bs.of_prot h, rfl, rfl, rfl, Nat.le_refl _⟩
  · simp at h
  · simp at h

/-- What was there is there. -/
theorem RW.below {w' : World} {h : Hp} (H : RW σ (Bs.of w) m h w') : RowKit.Below w.heap.size w w' where
  os := H.os
  tape := H.tape
  output := H.out
  size := H.size
  block := fun k hk => by
    have hw : w.heap[k]? = some w.heap[k] := Array.getElem?_eq_getElem hk
    rw [hw]
    exact H.prot k _ (by simp only [Bs.of, hk, if_true]; exact hw)

end

end Go.Sy
