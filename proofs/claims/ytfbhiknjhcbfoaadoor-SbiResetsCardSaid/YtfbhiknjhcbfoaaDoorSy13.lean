/- A symbolic evaluator for the model's programs: maps. -/
import Derived.Test.YtfbhiknjhcbfoaaDoorSy12
namespace Go.Sy

section
variable {σ : Vl} {β : Bs} {P : Program} {m : Md} {h : Hp} {w : World}

theorem RE_length : ∀ {es : List (SV × SV × Nat)} {l : List MapEntry}, RE σ m es l → l.length = es.length
  | [], l, h => by unfold RE at h; subst h; rfl
  | (_, _, _) :: es, l, h => by
    unfold RE at h
    obtain ⟨e, l', rfl, _, _, _, h⟩ := h
    simp [RE_length h]

theorem RW.mapAt (H : RW σ β m h w) {r B : Nat} {es : List (SV × SV × Nat)} {clock : Nat} (hr : h.t.get r = some (.map es clock)) (hB : m.ρ[r]? = some B) :
    ∃ l, w.heap[B]? = some (.map (List.toArray l) clock) ∧ RE σ m es l := by
  obtain ⟨B', O, h1, h2, h3, _⟩ := H.obj _ _ hr
  rw [hB] at h1; cases h1
  obtain ⟨l, rfl, h4⟩ := h3
  exact ⟨l, h2, h4⟩

theorem run_getObj_map {B : Nat} {es : Array MapEntry} {c : Nat} (hh : w.heap[B]? = some (.map es c)) : (getObj B).run P w = .ok (.map es c) w := by
  simp [getObj, Sem.run, hh]

theorem evLen_sound {t ty : TypeId} {ts : List TypeId} {x v : SV} {x' : Value} {xs : List Value} (he : evLen P h t x = some v) (hx : R σ m x x') :
    VP σ β P m h (Builtin.len_ (t :: ts).toArray ty (x' :: xs).toArray) v := by
  intro w H
  unfold evLen at he
  split at he
  · rename_i s hu
    cases he; unfold R at hx; subst hx
    refine ⟨.int .i64 _, by unfold R; rfl, ?_⟩
    simp only [Builtin.len_, List.getElem?_toArray, List.getElem?_cons_zero, Sem.run_bind, run_underlying hu, Result.andThen_ok, Sem.run_pure, goInt, mkLen_I]
    rfl
  · rename_i n _ hu
    cases he
    refine ⟨.int .i64 n, by unfold R; rfl, ?_⟩
    simp [Builtin.len_, run_underlying hu, goInt]
  · rename_i a n c hu
    cases he
    refine ⟨.int .i64 n, by unfold R; rfl, ?_⟩
    cases a with
    | none => unfold R at hx; obtain ⟨_, _, rfl⟩ := hx; simp [Builtin.len_, run_underlying hu, goInt]
    | some p => unfold R at hx; obtain ⟨_, _, _, _, rfl⟩ := hx; simp [Builtin.len_, run_underlying hu, goInt]
  · rename_i hu
    cases he; unfold R at hx; subst hx
    refine ⟨.int .i64 0, by unfold R; rfl, ?_⟩
    simp [Builtin.len_, run_underlying hu, goInt]
  · rename_i r hu
    unfold R at hx; obtain ⟨B, hB, rfl⟩ := hx
    split at he
    · rename_i es ck hr
      cases he
      obtain ⟨l, hh, hre⟩ := H.mapAt hr hB
      refine ⟨.int .i64 es.length, by unfold R; rfl, ?_⟩
      simp [Builtin.len_, run_underlying hu, goInt, run_getObj_map hh, RE_length hre]
    · cases he
  · cases he

/-! ### keys -/

/-- What the quick look at two keys says is what '==' says. -/
theorem sameNow_equal {kt : TypeId} {d : TypeDesc} (hu : P.underlying kt = some d) {a b : Value} {r : Bool} (hs : Instr.sameNow d a b = some r) (w : World) : (Op.equal kt a b).run P w = .ok r w := by
  unfold Instr.sameNow at hs
  split at hs
  · split at hs
    · rename_i e; subst e; cases hs
      exact run_equalIn_int w 9999 kt _ _ _ _ hu
    · cases hs
  · cases hs
    rw [beq_toListBytes]
    exact run_equalIn_string w 9999 kt _ _ hu
  · cases hs
    exact run_equalIn_bool' w 9999 kt _ _ hu
  · cases hs

theorem findNow_asking {kt : TypeId} {d : TypeDesc} (hu : P.underlying kt = some d) {k : Value} : ∀ {es : List MapEntry} {i : Nat} {r : Option (Nat × Value)}, Instr.findNow d k es i = some r → ∀ w, (Instr.findAsking kt k es i).run P w = .ok r w
  | [], i, r, he, w => by unfold Instr.findNow at he; cases he; simp [Instr.findAsking]
  | e :: es, i, r, he, w => by
    unfold Instr.findNow at he
    unfold Instr.findAsking
    split at he
    · rename_i hs
      cases he
      simp [sameNow_equal hu hs]
    · rename_i hs
      simp [sameNow_equal hu hs, findNow_asking hu he]
    · cases he

theorem findKey_asking {kt : TypeId} {d : TypeDesc} (hu : P.underlying kt = some d) {k : Value} {es : List MapEntry} {r : Option (Nat × Value)} (ha : ∀ w, (Instr.findAsking kt k es 0).run P w = .ok r w) (w : World) :
    (Instr.findKey kt k es).run P w = .ok r w := by
  unfold Instr.findKey
  simp only [Sem.run_bind, run_underlying hu, Result.andThen_ok]
  split
  · rename_i r' hf
    have := findNow_asking hu hf w
    rw [ha] at this
    cases this
    simp
  · exact ha w

def FindR (σ : Vl) (P : Program) (m : Md) (kt : TypeId) (k' : Value) (es : List (SV × SV × Nat)) (i : Nat) (r : Option (Nat × SV)) : Prop :=
  ∀ l, RE σ m es l → ∃ r', (∀ w, (Instr.findAsking kt k' l i).run P w = .ok r' w) ∧
    match r with
    | none => r' = none
    | some (j, v) => ∃ v', r' = some (j, v') ∧ R σ m v v'

theorem findEnt_sound {kt : TypeId} {k : SV} {k' : Value} (hk : R σ m k k') : ∀ {es : List (SV × SV × Nat)} {i : Nat} {rs : List (List X × Option (Nat × SV))}, findEnt P kt k es i = some rs →
    ∃ cs r, (cs, r) ∈ rs ∧ PC σ cs ∧ FindR σ P m kt k' es i r
  | [], i, rs, he => by
    unfold findEnt at he; cases he
    refine ⟨[], none, by simp, PC.nil, fun l hr => ?_⟩
    unfold RE at hr; subst hr
    exact ⟨none, fun w => by simp [Instr.findAsking], rfl⟩
  | (key, v, n) :: es, i, rs, he => by
    have hit : ∀ {c : X}, eqIn P 8 kt k key = some c → c.B σ = true → FindR σ P m kt k' ((key, v, n) :: es) i (some (i, v)) := by
      intro c heq hc l hr
      unfold RE at hr
      obtain ⟨e, l', rfl, h1, h2, h3, h4⟩ := hr
      have heqt : ∀ w, (Op.equal kt k' e.key).run P w = .ok true w := fun w => by have := eqIn_sound heq hk h1 Op.maxDepth (by decide) w; rw [hc] at this; exact this
      exact ⟨some (i, e.val), fun w => by simp [Instr.findAsking, heqt], e.val, rfl, h2⟩
    have miss : ∀ {c : X} {r : Option (Nat × SV)}, eqIn P 8 kt k key = some c → c.B σ = false → FindR σ P m kt k' es (i + 1) r → FindR σ P m kt k' ((key, v, n) :: es) i r := by
      intro c r heq hc hf l hr
      unfold RE at hr
      obtain ⟨e, l', rfl, h1, h2, h3, h4⟩ := hr
      have heqt : ∀ w, (Op.equal kt k' e.key).run P w = .ok false w := fun w => by have := eqIn_sound heq hk h1 Op.maxDepth (by decide) w; rw [hc] at this; exact this
      obtain ⟨r', k3, k4⟩ := hf l' h4
      exact ⟨r', fun w => by simp [Instr.findAsking, heqt, k3], k4⟩
    unfold findEnt at he
    split at he
    · rename_i heq
      cases he
      exact ⟨[], some (i, v), by simp, PC.nil, hit heq rfl⟩
    · rename_i heq
      obtain ⟨cs, r, k1, k2, k3⟩ := findEnt_sound hk he
      exact ⟨cs, r, k1, k2, miss heq rfl k3⟩
    · rename_i c _ _ heq
      split at he
      · rename_i l2 hl2
        cases he
        by_cases hc : c.B σ = true
        · exact ⟨[c], some (i, v), by simp, by rw [PC.cons]; exact ⟨hc, PC.nil⟩, hit heq hc⟩
        · have hcf : c.B σ = false := by simpa using hc
          obtain ⟨cs, r, k1, k2, k3⟩ := findEnt_sound hk hl2
          exact ⟨.not c :: cs, r, List.mem_cons_of_mem _ (List.mem_map.2 ⟨(cs, r), k1, rfl⟩), by rw [PC.cons]; exact ⟨by rw [not_B, hcf]; rfl, k2⟩, miss heq hcf k3⟩
      · cases he
    · cases he

/-- The look at a struct's fields before a key is sought. -/
def checkFields (empty : Bool) (n : Nat) (cs : Array Value) : List Field → Sem Unit
  | [] => pure ()
  | f :: fs =>
    if f.name ≠ "_" then do
      Instr.checkKey empty n f.type (← Go.part f.type cs f.offset)
      checkFields empty n cs fs
    else checkFields empty n cs fs

theorem run_checkKey_struct (empty : Bool) (n : Nat) (t : TypeId) (fields : Array Field) (cs : Array Value) (hu : P.underlying t = some (.struct fields)) (w : World) :
    (Instr.checkKey empty (n + 1) t (.agg cs)).run P w = (checkFields empty n cs fields.toList).run P w := by
  simp only [Instr.checkKey, Sem.run_bind, run_underlying hu, Result.andThen_ok]
  rw [← Array.forIn_toList]
  generalize fields.toList = fs
  induction fs generalizing w with
  | nil => simp [checkFields]
  | cons f fs ih =>
    simp only [List.forIn_cons, checkFields, Sem.run_bind, Sem.run_ite]
    split
    · generalize (Go.part f.type cs f.offset).run P w = r1
      cases r1 with
      | ok a w1 =>
        simp only [Result.andThen_ok]
        generalize (Instr.checkKey empty n f.type a).run P w1 = r2
        cases r2 with
        | ok u w2 => simp only [Result.andThen_ok, Sem.run_pure]; exact ih w2
        | halt x w2 => simp [Result.andThen]
      | halt x w1 => simp [Result.andThen]
    · simp only [Sem.run_pure, Result.andThen_ok]
      exact ih w

def plainD : TypeDesc → Bool
  | .int _ | .string | .bool => true
  | _ => false

theorem checkKey_plain {t : TypeId} {d : TypeDesc} (hu : P.underlying t = some d) (hd : plainD d = true) (empty : Bool) (n : Nat) (v : Value) (w : World) :
    (Instr.checkKey empty (n + 1) t v).run P w = .ok () w := by
  simp only [Instr.checkKey, Sem.run_bind, run_underlying hu, Result.andThen_ok]
  cases d <;> first | (cases hd; done) | rfl

theorem keyFine_plain {d : Nat} {t : TypeId} (hf : keyFine P d t = true) (hagg : tyAgg P t = some false) : ∃ d, P.underlying t = some d ∧ plainD d = true := by
  cases d with
  | zero => cases hf
  | succ d =>
    unfold keyFine at hf
    split at hf
    · rename_i hu; exact ⟨_, hu, rfl⟩
    · rename_i hu; exact ⟨_, hu, rfl⟩
    · rename_i hu; exact ⟨_, hu, rfl⟩
    · rename_i fs hu
      unfold tyAgg at hagg
      rw [hu] at hagg
      cases hagg
    · cases hf

theorem checkFields_ok {d n : Nat} {cs : List SV} {us : List Value} (hr : RL σ m cs us) (empty : Bool) : ∀ (fs : List Field), (∀ f ∈ fs, f.name ≠ "_" ∧ keyFine P d f.type = true ∧ tyAgg P f.type = some false) →
    (∀ f ∈ fs, (part P f.type cs f.offset).isSome = true) → ∀ w, (checkFields empty (n + 1) us.toArray fs).run P w = .ok () w
  | [], _, _, w => by simp [checkFields]
  | f :: fs, h1, h2, w => by
    obtain ⟨hn, hk, hagg⟩ := h1 f (by simp)
    obtain ⟨p, hp⟩ := Option.isSome_iff_exists.1 (h2 f (by simp))
    obtain ⟨v', hv, _⟩ := run_part hp hr
    obtain ⟨d', hu, hd⟩ := keyFine_plain hk hagg
    unfold checkFields
    rw [if_pos hn]
    simp only [Sem.run_bind, hv, Result.andThen_ok, checkKey_plain hu hd]
    exact checkFields_ok hr empty fs (fun g hg => h1 g (by simp [hg])) (fun g hg => h2 g (by simp [hg])) w

theorem checkKey_ok {d : Nat} {kt : TypeId} {k : SV} {k' : Value} (hf : keyFine P d kt = true) (ht : keyTold P kt k = true) (hk : R σ m k k') (empty : Bool) (n : Nat) (w : World) : (Instr.checkKey empty (n + 2) kt k').run P w = .ok () w := by
  cases d with
  | zero => cases hf
  | succ d =>
    unfold keyFine at hf
    split at hf
    · rename_i hu; exact checkKey_plain hu rfl _ _ _ _
    · rename_i hu; exact checkKey_plain hu rfl _ _ _ _
    · rename_i hu; exact checkKey_plain hu rfl _ _ _ _
    · rename_i fields hu
      simp only [Bool.and_eq_true, List.all_eq_true, beq_iff_eq, decide_eq_true_eq] at hf
      unfold keyTold at ht
      rw [hu] at ht
      simp only at ht
      split at ht
      · rename_i cs
        unfold R at hk; obtain ⟨us, rfl, hr⟩ := hk
        rw [run_checkKey_struct empty (n + 1) kt fields us.toArray hu w]
        exact checkFields_ok hr empty _ (fun f hf' => ⟨(hf.2 f hf').1.1, (hf.2 f hf').1.2, (hf.2 f hf').2⟩) (fun f hf' => List.all_eq_true.1 ht f hf') w
      · cases ht
    · cases hf

theorem lookup_run {t kt et : TypeId} {x' k' zv : Value} {ok : Bool} {L : List MapEntry} {r' : Option (Nat × Value)} (hu : P.underlying t = some (.map kt et))
    (hcase : (x' = .map none ∧ L = []) ∨ ∃ B ck, x' = .map (some B) ∧ w.heap[B]? = some (.map L.toArray ck)) (hck : ∀ e, (Instr.checkKey e 10000 kt k').run P w = .ok () w)
    (hfk : (Instr.findKey kt k' L).run P w = .ok r' w) (hz : r' = none → (zeroValue et).run P w = .ok zv w) :
    (Instr.lookup t x' k' ok).run P w = .ok (match r' with
      | some p => if ok then .tuple #[p.2, .bool true] else p.2
      | none => if ok then .tuple #[zv, .bool false] else zv) w := by
  unfold Instr.lookup
  rcases hcase with ⟨rfl, rfl⟩ | ⟨B, ck, rfl, hh⟩
  · cases r' with
    | none => cases ok <;> simp [run_underlying hu, hck, hfk, hz rfl]
    | some p => cases ok <;> simp [run_underlying hu, hck, hfk]
  · cases r' with
    | none => cases ok <;> simp [run_underlying hu, run_getObj_map hh, hck, hfk, hz rfl]
    | some p => cases ok <;> simp [run_underlying hu, run_getObj_map hh, hck, hfk]

theorem keyFine_some {d : Nat} {kt : TypeId} (hc : keyFine P d kt = true) : ∃ d, P.underlying kt = some d := by
  cases d with
  | zero => cases hc
  | succ d =>
    unfold keyFine at hc
    cases hq : P.underlying kt with
    | none => rw [hq] at hc; cases hc
    | some d => exact ⟨d, rfl⟩

theorem evLookup_sound {t : TypeId} {x k : SV} {x' k' : Value} {ok : Bool} {rs : Rs} (he : evLookup P h t x k ok = some rs) (hx : R σ m x x') (hk : R σ m k k') :
    VPs σ β P m h (Instr.lookup t x' k' ok) rs := by
  unfold evLookup at he
  split at he
  · rename_i kt et hu
    split at he
    · cases he
    · rename_i hc
      simp only [Bool.not_eq_true', Bool.not_eq_false, Bool.and_eq_true] at hc
      simp only at he
      split at he
      · rename_i es z hes hz
        split at he
        · rename_i l hl
          cases he
          have hkey : ∀ w, RW σ β m h w → ∃ L : List MapEntry, RE σ m es L ∧ ((x' = .map none ∧ L = []) ∨ ∃ B ck, x' = .map (some B) ∧ w.heap[B]? = some (.map L.toArray ck)) := by
            intro w H
            split at hes
            · cases hes
              unfold R at hx; subst hx
              exact ⟨[], by unfold RE; rfl, .inl ⟨rfl, rfl⟩⟩
            · rename_i r
              unfold R at hx; obtain ⟨B, hB, rfl⟩ := hx
              split at hes
              · rename_i es' ck hr
                cases hes
                obtain ⟨L, hh, hre⟩ := H.mapAt hr hB
                exact ⟨L, hre, .inr ⟨B, ck, rfl, hh⟩⟩
              · cases hes
            · cases hes
          obtain ⟨cs, r, k1, k2, k3⟩ := findEnt_sound (P := P) hk hl
          obtain ⟨d, hku⟩ := keyFine_some hc.1
          obtain ⟨zv, hzv, rfl, _⟩ := run_zero' hz
          cases r with
          | none =>
            refine ⟨cs, _, List.mem_map.2 ⟨(cs, none), k1, rfl⟩, k2, .inr ⟨_, rfl, fun w H => ?_⟩⟩
            obtain ⟨L, hre, hcase⟩ := hkey w H
            obtain ⟨r', g1, g2⟩ := k3 L hre
            subst g2
            have hrun := lookup_run (ok := ok) (zv := zv) hu hcase (fun e => checkKey_ok (n := 9998) hc.1 hc.2 hk e w) (findKey_asking hku g1 w) (fun _ => hzv w)
            refine ⟨_, ?_, hrun⟩
            cases ok with
            | true => simp only [if_true]; unfold R; exact ⟨[zv, .bool false], rfl, by rw [RL_cons', RL_cons', RL_nil]; exact ⟨R_ofV σ m zv, by unfold R; rfl, rfl⟩⟩
            | false => simp only [Bool.false_eq_true, if_false]; exact R_ofV σ m zv
          | some p =>
            obtain ⟨j, v⟩ := p
            refine ⟨cs, _, List.mem_map.2 ⟨(cs, some (j, v)), k1, rfl⟩, k2, .inr ⟨_, rfl, fun w H => ?_⟩⟩
            obtain ⟨L, hre, hcase⟩ := hkey w H
            obtain ⟨r', g1, v', rfl, g2⟩ := k3 L hre
            have hrun := lookup_run (ok := ok) (zv := zv) hu hcase (fun e => checkKey_ok (n := 9998) hc.1 hc.2 hk e w) (findKey_asking hku g1 w) (fun _ => hzv w)
            refine ⟨_, ?_, hrun⟩
            cases ok with
            | true => simp only [if_true]; unfold R; exact ⟨[v', .bool true], rfl, by rw [RL_cons', RL_cons', RL_nil]; exact ⟨g2, by unfold R; rfl, rfl⟩⟩
            | false => simp only [Bool.false_eq_true, if_false]; exact g2
        · cases he
      · cases he
  · cases he

/-! ### stores into maps -/

theorem RE_snoc {es : List (SV × SV × Nat)} {l : List MapEntry} (h : RE σ m es l) {k v : SV} {n : Nat} {e : MapEntry} (h1 : R σ m k e.key) (h2 : R σ m v e.val) (h3 : e.born = n) : RE σ m (es ++ [(k, v, n)]) (l ++ [e]) := by
  induction es generalizing l with
  | nil => unfold RE at h; subst h; simp only [List.nil_append]; unfold RE; exact ⟨e, [], rfl, h1, h2, h3, by unfold RE; rfl⟩
  | cons x es ih =>
    obtain ⟨a, b, c⟩ := x
    unfold RE at h
    obtain ⟨e', l', rfl, k1, k2, k3, k4⟩ := h
    simp only [List.cons_append]
    unfold RE
    exact ⟨e', l' ++ [e], rfl, k1, k2, k3, ih k4⟩

theorem RE_set {es : List (SV × SV × Nat)} {l : List MapEntry} (h : RE σ m es l) {k v : SV} {k' v' : Value} (h1 : R σ m k k') (h2 : R σ m v v') (i : Nat) : RE σ m (setEnt es i k v) (l.modify i fun e => { e with key := k', val := v' }) := by
  unfold setEnt
  induction es generalizing l i with
  | nil => unfold RE at h; subst h; cases i <;> simp [RE]
  | cons x es ih =>
    obtain ⟨a, b, c⟩ := x
    unfold RE at h
    obtain ⟨e', l', rfl, k1, k2, k3, k4⟩ := h
    cases i with
    | zero => simp only [List.modify_zero_cons]; unfold RE; exact ⟨_, l', rfl, h1, h2, k3, k4⟩
    | succ i => simp only [List.modify_succ_cons]; unfold RE; exact ⟨e', _, rfl, k1, k2, k3, ih k4 i⟩

theorem setObj_run {B : Nat} {es : Array MapEntry} {c : Nat} (hh : w.heap[B]? = some (.map es c)) (O : Obj) : (setObj B O).run P w = .ok () { w with heap := w.heap.setIfInBounds B O } := by
  simp [setObj, Sem.run, hh]

theorem setObj_turned {B : Nat} {o : Obj} (hh : w.heap[B]? = some o) (O : Obj) : Turned B O w { w with heap := w.heap.setIfInBounds B O } where
  at_ := by
    have : B < w.heap.size := (Array.getElem?_eq_some_iff.1 hh).1
    simp [this]
  other := fun b hb => by simp [Array.getElem?_setIfInBounds_ne (Ne.symm hb)]
  size := by simp
  tape := rfl
  os := rfl
  out := rfl

theorem RE_get : ∀ {es : List (SV × SV × Nat)} {l : List MapEntry} {i : Nat} {k v : SV} {n : Nat}, RE σ m es l → es[i]? = some (k, v, n) → ∃ e, l[i]? = some e ∧ R σ m k e.key
  | [], _, _, _, _, _, _, h => by simp at h
  | (a, b, c) :: es, l, i, k, v, n, hr, h => by
    unfold RE at hr
    obtain ⟨e, l', rfl, k1, _, _, k4⟩ := hr
    cases i with
    | zero => simp at h; obtain ⟨rfl, rfl, rfl⟩ := h; exact ⟨e, by simp, k1⟩
    | succ i => simp at h; obtain ⟨e', h1, h2⟩ := RE_get k4 h; exact ⟨e', by simpa using h1, h2⟩

theorem plainSame_bits {k0 k : SV} {e' k' : Value} (hp : plainSame k0 k = true) (he : R σ m k0 e') (hk : R σ m k k') : Instr.sameBits 10000 e' k' = true := by
  unfold plainSame at hp
  split at hp
  · simp only [Bool.and_eq_true, beq_iff_eq] at hp
    obtain ⟨rfl, rfl⟩ := hp
    unfold R at he hk; subst he; subst hk
    simp [Instr.sameBits]
  · simp only [beq_iff_eq] at hp
    subst hp
    unfold R at he hk; subst he; subst hk
    unfold Instr.sameBits
    rw [beq_toListBytes]; simp
  · cases hp

theorem evMapUpdate_sound (H : RW σ β m h w) {t : TypeId} {x k v : SV} {x' k' v' : Value} {rs : Rs} (he : evMapUpdate P h t x k v = some rs) (hx : R σ m x x') (hk : R σ m k k') (hv : R σ m v v') :
    ∃ h', rs = [([], .val (.tup []) h')] ∧ ∃ w', (Instr.mapUpdate t x' k' v').run P w = .ok () w' ∧ RW σ β m h' w' := by
  unfold evMapUpdate at he
  split at he
  · rename_i kt et r hu
    unfold R at hx; obtain ⟨B, hB, rfl⟩ := hx
    split at he
    · cases he
    · rename_i hc
      simp only [Bool.not_eq_true', Bool.not_eq_false, Bool.and_eq_true] at hc
      split at he
      · rename_i es clock hr
        obtain ⟨L, hh, hre⟩ := H.mapAt hr hB
        have hck := checkKey_ok (n := 9998) hc.1 hc.2 hk false w
        obtain ⟨d, hku⟩ := keyFine_some hc.1
        split at he
        · rename_i hf
          cases he
          obtain ⟨cs, r0, k1, k2, k3⟩ := findEnt_sound (P := P) hk hf
          simp only [List.mem_singleton, Prod.mk.injEq] at k1
          obtain ⟨rfl, rfl⟩ := k1
          obtain ⟨r', k3, k4⟩ := k3 L hre
          subst k4
          have hfk := findKey_asking hku k3 w
          refine ⟨_, rfl, _, ?_, H.put hr hB (o' := .map (es ++ [(k, v, clock)]) (clock + 1)) (O' := .map (List.toArray (L ++ [({ key := k', val := v', born := clock } : MapEntry)])) (clock + 1)) ⟨_, rfl, RE_snoc hre hk hv rfl⟩ (setObj_turned hh _)⟩
          simp only [Instr.mapUpdate, Sem.run_bind, run_underlying hu, Result.andThen_ok, run_getObj_map hh, hck, hfk, setObj_run hh]
          simp
        · rename_i i _ hf
          split at he
          · rename_i k0 v0 n0 hes
            split at he
            · rename_i hps
              cases he
              obtain ⟨cs, r0, k1, k2, k3⟩ := findEnt_sound (P := P) hk hf
              simp only [List.mem_singleton, Prod.mk.injEq] at k1
              obtain ⟨rfl, rfl⟩ := k1
              obtain ⟨r', k3, v1, rfl, g2⟩ := k3 L hre
              have hfk := findKey_asking hku k3 w
              obtain ⟨e0, hl0, hr0⟩ := RE_get hre hes
              have hsb := plainSame_bits hps hr0 hk
              refine ⟨_, rfl, _, ?_, H.put hr hB (o' := .map (setEnt es i k v) clock) (O' := .map (List.toArray (L.modify i fun (e : MapEntry) => { e with key := k', val := v' })) clock) ⟨_, rfl, RE_set hre hk hv i⟩ (setObj_turned hh _)⟩
              simp only [Instr.mapUpdate, Sem.run_bind, run_underlying hu, Result.andThen_ok, run_getObj_map hh, hck, hfk, List.getElem?_toArray, hl0, Option.map_some, Option.getD_some, Instr.keyThatStays, hsb, if_true, Sem.run_pure, setObj_run hh]
              simp
            · cases he
          · cases he
        · cases he
      · cases he
  · cases he

end

end Go.Sy
