/- The evaluator for the kernel: operations on memory, calls, each turned. -/
import Derived.Test.YtfbhiknjhcbfoaaDoorK4
namespace Go.Sy

section
variable (C : Cfg)

theorem fo_val {o : Oper} {ev : Caller} {s : St} {v : SV} {h : Hp} (ho : C.ora o.op (evOperand C.gl s.tm) = none) (he : evOp C.P s.hp (evOperand C.gl s.tm) o.op = some [([], .val v h)]) (kn kb : St → R1) :
    bindO (evOper C.P C.gl C.ora ev o s) (selO kn kb) = kn (({ s with hp := h } : St).put o.dst (v.red s.pc)) :=
  evOper_val C (by rw [ev_of C ho, he]) kn kb

/-! ### memory -/

noncomputable def ldF (a : VF) (w : WF) (sl : OF) : OF := fun call s kn kb => svPtr (a s) (sl call s kn kb) fun b i => objAt s.hp b (sl call s kn kb) fun cs _ _ _ => nthK cs i (sl call s kn kb) fun v => retV w v s kn
theorem ldF_ok {o : Oper} {t : TypeId} {x : Operand} {a : VF} {w : WF} (hx : o.op = .load t x) (ht : tyAgg C.P t = some false) (ha : VOK C x a) (hw : WrOK o.dst w) : FOK C o (ldF a w (slowOp C o)) := by
  intro call ev hc s kn kb ho
  have hsl := slowOp_ok C o call ev hc s kn kb
  unfold ldF
  rw [svPtr_eq, ha]
  split
  · rename_i b i hb
    rw [objAt_eq]
    split
    · rename_i cs e k z hcs
      rw [nthK_eq]
      split
      · rename_i v hv
        rw [fo_val C ho (v := v) (h := s.hp) (by rw [hx]; simp only [evOp, hb, evLoad, hcs, ht, hv]; rfl), retV_eq hw]
      · exact hsl
    · exact hsl
  · exact hsl

noncomputable def ldA (m : Nat) (a : VF) (w : WF) (sl : OF) : OF := fun call s kn kb => svPtr (a s) (sl call s kn kb) fun b i => objAt s.hp b (sl call s kn kb) fun cs _ _ _ => cutR cs i m (sl call s kn kb) fun vs => w (.agg vs) s kn
theorem ldA_ok {o : Oper} {t : TypeId} {x : Operand} {a : VF} {w : WF} {m : Nat} (hx : o.op = .load t x) (ht : tyAgg C.P t = some true) (hm : tySize C.P t = some m) (ha : VOK C x a) (hw : WrOK o.dst w) : FOK C o (ldA m a w (slowOp C o)) := by
  intro call ev hc s kn kb ho
  have hsl := slowOp_ok C o call ev hc s kn kb
  unfold ldA
  rw [svPtr_eq, ha]
  split
  · rename_i b i hb
    rw [objAt_eq]
    split
    · rename_i cs e k z hcs
      rw [cutR_eq]
      split
      · rename_i vs hv
        rw [fo_val C ho (v := .agg vs) (h := s.hp) (by rw [hx]; simp only [evOp, hb, evLoad, hcs, ht, hm, hv]; rfl), hw]; rfl
      · exact hsl
    · exact hsl
  · exact hsl

noncomputable def zzR (z : Nat × Nat) (n t : R1) : R1 := pairR z fun a b => Nat.rec (motive := fun _ => R1) (Nat.rec (motive := fun _ => R1) t (fun _ _ => n) b) (fun _ _ => n) a
theorem zzR_eq (z : Nat × Nat) (n t : R1) : zzR z n t = if z == (0, 0) then t else n := by
  obtain ⟨a, b⟩ := z
  cases a <;> cases b <;> rfl

/-- An object put. -/
noncomputable def setO (o : SO) (b : Nat) (s : St) (k : St → R1) : R1 := stR s fun tm nt hp pc => hpR hp fun t nx nk => T.putK o t b fun t => k ⟨tm, nt, ⟨t, nx, nk⟩, pc⟩
theorem setO_eq (o : SO) (b : Nat) (s : St) (k : St → R1) : setO o b s k = k { s with hp := s.hp.put b o } := by
  show T.putK o s.hp.t b (fun t => k ⟨s.tm, s.nt, ⟨t, s.hp.nx, s.hp.nk⟩, s.pc⟩) = _
  rw [T.putK_eq, T.put_set]; rfl
/-- A new object. -/
noncomputable def newO (o : SO) (s : St) (k : Nat → St → R1) : R1 := stR s fun tm nt hp pc => hpR hp fun t nx nk => T.putK o t nx fun t => natR (Nat.succ nx) fun nx' => k nx ⟨tm, nt, ⟨t, nx', nk⟩, pc⟩
theorem newO_eq (o : SO) (s : St) (k : Nat → St → R1) : newO o s k = k s.hp.nx { s with hp := s.hp.new o } := by
  show T.putK o s.hp.t s.hp.nx (fun t => natR (Nat.succ s.hp.nx) fun nx' => k s.hp.nx ⟨s.tm, s.nt, ⟨t, nx', s.hp.nk⟩, s.pc⟩) = _
  rw [T.putK_eq, T.put_set, natR_eq]; rfl

noncomputable def stF (m : Nat) (a b : VF) (w : WF) (sl : OF) : OF := fun call s kn kb => svPtr (a s) (sl call s kn kb) fun p i => objAt s.hp p (sl call s kn kb) fun cs e k z => zzR z (sl call s kn kb)
  (cellsR (b s) m (sl call s kn kb) fun vs => spliceR i cs vs (sl call s kn kb) fun cs' => setO (.cells cs' e k z) p s fun s => w (.tup []) s kn)
theorem stF_ok {o : Oper} {t : TypeId} {x y : Operand} {a b : VF} {w : WF} {m : Nat} (hx : o.op = .store t x y) (hm : tySize C.P t = some m) (ha : VOK C x a) (hb : VOK C y b) (hw : WrOK o.dst w) : FOK C o (stF m a b w (slowOp C o)) := by
  intro call ev hc s kn kb ho
  have hsl := slowOp_ok C o call ev hc s kn kb
  unfold stF
  rw [svPtr_eq, ha]
  split
  · rename_i p i hp
    rw [objAt_eq]
    split
    · rename_i cs e k z hcs
      rw [zzR_eq]
      split
      · rename_i hz
        rw [cellsR_eq, hb]
        split
        · rename_i hv
          rw [spliceR_eq]
          split
          · rename_i cs' hcs'
            have he : evStore C.P s.hp t (evOperand C.gl s.tm x) (evOperand C.gl s.tm y) = some (s.hp.put p (.cells cs' e k z)) := by
              simp only [Bool.and_eq_true] at hv
              simp only [evStore, hp, hcs, hm, hz, hv.1.1, hv.1.2, hcs']
              have : (some m == some (evOperand C.gl s.tm y).cells.length) = true := by simpa using hv.2
              simp only [this]; rfl
            rw [fo_val C ho (v := .tup []) (h := s.hp.put p (.cells cs' e k z)) (by rw [hx]; simp only [evOp, he]; rfl), setO_eq, hw]; rfl
          · exact hsl
        · exact hsl
      · exact hsl
    · exact hsl
  · exact hsl

noncomputable def alF (zs : List SV) (t : TypeId) (w : WF) : OF := fun _ s kn _ => newO (.cells zs t none (0, 0)) s fun nx s => w (.ptr (some (nx, 0))) s kn
theorem alF_ok {o : Oper} {t : TypeId} {z : SV} {w : WF} (hx : o.op = .alloc t) (hz : tyZero C.P t = some z) (hzt : z.told = true) (hw : WrOK o.dst w) : FOK C o (alF z.cells t w) := by
  intro call ev hc s kn kb ho
  unfold alF
  rw [newO_eq, hw, fo_val C ho (v := .ptr (some (s.hp.nx, 0))) (h := s.hp.new (.cells z.cells t none (0, 0))) (by rw [hx]; simp only [evOp, hz, hzt]; rfl)]
  rfl

noncomputable def toldR (v : SV) (n : R1) (k : List SV → R1) : R1 := svAgg v (svTup v (svOne v n (k [v])) fun l => k [.tup l]) k
theorem toldR_eq (v : SV) (n : R1) (k : List SV → R1) : toldR v n k = if v.told then k v.cells else n := by
  unfold toldR
  rw [svAgg_eq, svTup_eq, svOne_eq]
  cases v <;> rfl
noncomputable def bxF (a : VF) (t : TypeId) (w : WF) (sl : OF) : OF := fun call s kn kb => toldR (a s) (sl call s kn kb) fun cs => newO (.cells cs t none (0, 0)) s fun nx s => w (.ptr (some (nx, 0))) s kn
theorem bxF_ok {o : Oper} {t : TypeId} {x : Operand} {a : VF} {w : WF} (hx : o.op = .box t x) (ha : VOK C x a) (hw : WrOK o.dst w) : FOK C o (bxF a t w (slowOp C o)) := by
  intro call ev hc s kn kb ho
  have hsl := slowOp_ok C o call ev hc s kn kb
  unfold bxF
  rw [toldR_eq, ha]
  split
  · rename_i h
    rw [newO_eq, hw, fo_val C ho (v := .ptr (some (s.hp.nx, 0))) (h := s.hp.new (.cells (evOperand C.gl s.tm x).cells t none (0, 0))) (by rw [hx]; simp only [evOp, h]; rfl)]
    rfl
  · exact hsl

/-! ### addresses -/

noncomputable def faF (off : Nat) (a : VF) (w : WF) (sl : OF) : OF := fun call s kn kb => svPtr (a s) (sl call s kn kb) fun b i => natR (Nat.add i off) fun j => w (.ptr (some (b, j))) s kn
theorem faF_ok {o : Oper} {t : TypeId} {x : Operand} {f : Nat} {a : VF} {w : WF} {fields : Array Field} {fl : Field} {n : Nat} (hx : o.op = .fieldAddr t x f) (ht : C.P.underlying t = some (.struct fields)) (hf : fields[f]? = some fl) (hs : tySize C.P fl.type = some (n + 1))
    (ha : VOK C x a) (hw : WrOK o.dst w) : FOK C o (faF fl.offset a w (slowOp C o)) := by
  intro call ev hc s kn kb ho
  have hsl := slowOp_ok C o call ev hc s kn kb
  unfold faF
  rw [svPtr_eq, ha]
  split
  · rename_i b i hb
    rw [natR_eq, hw, fo_val C ho (v := .ptr (some (b, i + fl.offset))) (h := s.hp) (by rw [hx]; simp only [evOp, hb, evFieldAddr, ht, hf, hs]; rfl)]
    rfl
  · exact hsl

noncomputable def iaP (i size b j : Nat) (w : WF) (s : St) (kn : St → R1) : R1 := natR (Nat.add j (Nat.mul i size)) fun j => w (.ptr (some (b, j))) s kn
noncomputable def iaS (size : Nat) (a x : VF) (w : WF) (sl : OF) : OF := fun call s kn kb => svSl (a s) (sl call s kn kb) fun p len _ => optR p (sl call s kn kb) fun p => pairR p fun b j =>
  svInt (x s) (sl call s kn kb) fun _ ix => xLit ix (sl call s kn kb) fun i => nnI i (sl call s kn kb) fun i => boolR (Nat.ble (Nat.succ i) len) (iaP i size b j w s kn) (sl call s kn kb)
theorem atIndex_lit {len i : Nat} (h : i < len) (f : Nat → Option Rr) : atIndex len (.lit (.ofNat i)) f = (f i).map fun r => [([], r)] := by
  unfold atIndex
  simp only
  rw [if_pos ⟨by simp, by simpa using h⟩]; rfl
theorem iaS_ok {o : Oper} {t : TypeId} {x y : Operand} {a b : VF} {w : WF} {elem : TypeId} {size : Nat} (hx : o.op = .indexAddr t x y) (ht : C.P.underlying t = some (.slice elem)) (hs : tySize C.P elem = some size) (ha : VOK C x a) (hb : VOK C y b) (hw : WrOK o.dst w) :
    FOK C o (iaS size a b w (slowOp C o)) := by
  intro call ev hc s kn kb ho
  have hsl := slowOp_ok C o call ev hc s kn kb
  unfold iaS
  rw [svSl_eq, ha]
  split
  · rename_i p len cap hp
    rw [optR_eq]
    rcases p with _ | ⟨p, j⟩
    · exact hsl
    · show svInt _ _ _ = _
      rw [svInt_eq, hb]
      split
      · rename_i k ix hix
        rw [xLit_eq]
        split
        · rename_i n
          rw [nnI_eq]
          split
          · rename_i i
            rw [boolR_eq]
            split
            · rename_i hlt
              have hlt' := Nat.le_of_ble_eq_true hlt
              unfold iaP
              rw [natR_eq, hw, fo_val C ho (v := .ptr (some (p, j + i * size))) (h := s.hp) (by rw [hx]; simp only [evOp, hp, hix, evIndexAddr, ht, hs, atIndex_lit hlt']; rfl)]
              rfl
            · exact hsl
          · exact hsl
        · exact hsl
      · exact hsl
  · exact hsl

noncomputable def iaA (len size : Nat) (a x : VF) (w : WF) (sl : OF) : OF := fun call s kn kb => svPtr (a s) (sl call s kn kb) fun b j =>
  svInt (x s) (sl call s kn kb) fun _ ix => xLit ix (sl call s kn kb) fun i => nnI i (sl call s kn kb) fun i => boolR (Nat.ble (Nat.succ i) len) (iaP i size b j w s kn) (sl call s kn kb)
theorem iaA_ok {o : Oper} {t : TypeId} {x y : Operand} {a b : VF} {w : WF} {elem : TypeId} {len size : Nat} (hx : o.op = .indexAddr t x y) (ht : C.P.underlying t = some (.array len elem)) (hs : tySize C.P elem = some size) (ha : VOK C x a) (hb : VOK C y b) (hw : WrOK o.dst w) :
    FOK C o (iaA len size a b w (slowOp C o)) := by
  intro call ev hc s kn kb ho
  have hsl := slowOp_ok C o call ev hc s kn kb
  unfold iaA
  rw [svPtr_eq, ha]
  split
  · rename_i p j hp
    rw [svInt_eq, hb]
    split
    · rename_i k ix hix
      rw [xLit_eq]
      split
      · rename_i n
        rw [nnI_eq]
        split
        · rename_i i
          rw [boolR_eq]
          split
          · rename_i hlt
            have hlt' := Nat.le_of_ble_eq_true hlt
            unfold iaP
            rw [natR_eq, hw, fo_val C ho (v := .ptr (some (p, j + i * size))) (h := s.hp) (by rw [hx]; simp only [evOp, hp, hix, evIndexAddr, ht, hs, atIndex_lit hlt']; rfl)]
            rfl
          · exact hsl
        · exact hsl
      · exact hsl
    · exact hsl
  · exact hsl

/-! ### parts of values -/

noncomputable def exF (i : Nat) (a : VF) (w : WF) (sl : OF) : OF := fun call s kn kb => svTup (a s) (sl call s kn kb) fun vs => nthK vs i (sl call s kn kb) fun v => retV w v s kn
theorem exF_ok {o : Oper} {x : Operand} {i : Nat} {a : VF} {w : WF} (hx : o.op = .extract x i) (ha : VOK C x a) (hw : WrOK o.dst w) : FOK C o (exF i a w (slowOp C o)) := by
  intro call ev hc s kn kb ho
  have hsl := slowOp_ok C o call ev hc s kn kb
  unfold exF
  rw [svTup_eq, ha]
  split
  · rename_i vs hv
    rw [nthK_eq]
    split
    · rename_i v hi
      rw [fo_val C ho (v := v) (h := s.hp) (by rw [hx]; simp only [evOp, hv, hi]; rfl), retV_eq hw]
    · exact hsl
  · exact hsl

noncomputable def fdF (off : Nat) (a : VF) (w : WF) (sl : OF) : OF := fun call s kn kb => svAgg (a s) (sl call s kn kb) fun vs => nthK vs off (sl call s kn kb) fun v => retV w v s kn
theorem fdF_ok {o : Oper} {t : TypeId} {x : Operand} {f : Nat} {a : VF} {w : WF} {fields : Array Field} {fl : Field} (hx : o.op = .field t x f) (ht : C.P.underlying t = some (.struct fields)) (hf : fields[f]? = some fl) (hs : tyAgg C.P fl.type = some false)
    (ha : VOK C x a) (hw : WrOK o.dst w) : FOK C o (fdF fl.offset a w (slowOp C o)) := by
  intro call ev hc s kn kb ho
  have hsl := slowOp_ok C o call ev hc s kn kb
  unfold fdF
  rw [svAgg_eq, ha]
  split
  · rename_i vs hv
    rw [nthK_eq]
    split
    · rename_i v hi
      rw [fo_val C ho (v := v) (h := s.hp) (by rw [hx]; simp only [evOp, hv, evField, ht, hf, part, hs, hi]; rfl), retV_eq hw]
    · exact hsl
  · exact hsl

/-! ### others -/

noncomputable def ncF (a : VF) (w : WF) (sl : OF) : OF := fun call s kn kb => svPtr (a s) (sl call s kn kb) fun b i => w (.ptr (some (b, i))) s kn
theorem ncF_ok {o : Oper} {x : Operand} {a : VF} {w : WF} (hx : o.op = .nilCheck x) (ha : VOK C x a) (hw : WrOK o.dst w) : FOK C o (ncF a w (slowOp C o)) := by
  intro call ev hc s kn kb ho
  have hsl := slowOp_ok C o call ev hc s kn kb
  unfold ncF
  rw [svPtr_eq, ha]
  split
  · rename_i b i hb
    rw [hw, fo_val C ho (v := .ptr (some (b, i))) (h := s.hp) (by rw [hx]; simp only [evOp, hb]; rfl)]
    rfl
  · exact hsl

noncomputable def cvR (k : IntKind) (x : X) (kont : X → R1) : R1 := xLit x (kont (.cv k x)) fun n => nnI n (intR (k.wrap n) fun n => kont (.lit n)) fun a => boolR (Nat.ble (lim k) a) (intR (k.wrap n) fun n => kont (.lit n)) (kont (.lit (.ofNat a)))
theorem cvR_eq (k : IntKind) (x : X) (kont : X → R1) : cvR k x kont = kont (mkCv k x) := by
  unfold cvR
  rw [xLit_eq]
  cases x with
  | lit n =>
    simp only
    rw [nnI_eq, intR_eq]
    cases n with
    | negSucc a => rfl
    | ofNat a =>
      simp only
      rw [boolR_eq]
      split
      · rfl
      · rename_i h
        have h' : Nat.ble (lim k) a = false := by cases hb : Nat.ble (lim k) a with
          | true => exact absurd hb h
          | false => rfl
        have := wrap_small k a (lt_of_ble_false h')
        simp only [mkCv, Int.ofNat_eq_natCast, this]
  | _ => rfl
theorem mkCv_red (k : IntKind) (x : X) (pc : List X) : (mkCv k x).redI pc = mkCv k x := by cases x <;> rfl
noncomputable def cvF (k : IntKind) (a : VF) (w : WF) (sl : OF) : OF := fun call s kn kb => svInt (a s) (sl call s kn kb) fun _ x => cvR k x fun x => w (.int k x) s kn
theorem cvF_ok {o : Oper} {t u : TypeId} {x : Operand} {a : VF} {w : WF} {j k : IntKind} (hx : o.op = .convert t u x) (ht : C.P.underlying t = some (.int j)) (hu : C.P.underlying u = some (.int k)) (ha : VOK C x a) (hw : WrOK o.dst w) : FOK C o (cvF k a w (slowOp C o)) := by
  intro call ev hc s kn kb ho
  have hsl := slowOp_ok C o call ev hc s kn kb
  unfold cvF
  rw [svInt_eq, ha]
  split
  · rename_i q y hy
    rw [cvR_eq, hw, fo_val C ho (v := .int k (mkCv k y)) (h := s.hp) (by rw [hx]; simp only [evOp, hy, evConv, ht, hu]; rfl)]
    show _ = kn (s.put o.dst (.int k ((mkCv k y).redI s.pc)))
    rw [mkCv_red]
  · exact hsl

noncomputable def notF (a : VF) (w : WF) (sl : OF) : OF := fun call s kn kb => svBool (a s) (sl call s kn kb) fun x => xTt x (retF w (.bool (mkNot x)) s kn) fun b => boolR b (w (.bool (.tt false)) s kn) (w (.bool (.tt true)) s kn)
theorem notF_ok {o : Oper} {t : TypeId} {x : Operand} {a : VF} {w : WF} (hx : o.op = .unOp .not t x) (ha : VOK C x a) (hw : WrOK o.dst w) : FOK C o (notF a w (slowOp C o)) := by
  intro call ev hc s kn kb ho
  have hsl := slowOp_ok C o call ev hc s kn kb
  unfold notF
  rw [svBool_eq, ha]
  split
  · rename_i y hy
    rw [fo_val C ho (v := .bool (mkNot y)) (h := s.hp) (by rw [hx]; simp only [evOp, hy, evUn]; rfl), xTt_eq]
    split
    · rename_i b; rw [boolR_eq, hw, hw]; cases b <;> rfl
    · rw [retF_eq hw]
  · exact hsl

noncomputable def pkF (c a b : VF) (w : WF) (sl : OF) : OF := fun call s kn kb => svBool (c s) (sl call s kn kb) fun x => xTt x (sl call s kn kb) fun t => boolR t (retV w (a s) s kn) (retV w (b s) s kn)
theorem pkF_ok {o : Oper} {x y z : Operand} {c a b : VF} {w : WF} (hx : o.op = .pick x y z) (hc : VOK C x c) (ha : VOK C y a) (hb : VOK C z b) (hw : WrOK o.dst w) : FOK C o (pkF c a b w (slowOp C o)) := by
  intro call ev hcall s kn kb ho
  have hsl := slowOp_ok C o call ev hcall s kn kb
  unfold pkF
  rw [svBool_eq, hc]
  split
  · rename_i u hu
    rw [xTt_eq]
    split
    · rename_i t
      rw [boolR_eq, retV_eq hw, retV_eq hw, ha, hb]
      rw [fo_val C ho (v := if t then evOperand C.gl s.tm y else evOperand C.gl s.tm z) (h := s.hp) (by rw [hx]; simp only [evOp, hu]; rfl)]
      cases t <;> rfl
    · exact hsl
  · exact hsl

noncomputable def lnF (a : VF) (w : WF) (sl : OF) : OF := fun call s kn kb => svSl (a s) (sl call s kn kb) fun _ n _ => w (.int .i64 (.lit (.ofNat n))) s kn
theorem lnF_ok {o : Oper} {x : Operand} {t e : TypeId} {args : Array Operand} {tys : Array TypeId} {xs : List Operand} {ts : List TypeId} {a : VF} {w : WF} (hx : o.op = .call { callee := .builtin .len, args := args, argTypes := tys }) (hargs : args.toList = x :: xs) (htys : tys.toList = t :: ts)
    (ht : C.P.underlying t = some (.slice e)) (ha : VOK C x a) (hw : WrOK o.dst w) : FOK C o (lnF a w (slowOp C o)) := by
  intro call ev hc s kn kb ho
  have hsl := slowOp_ok C o call ev hc s kn kb
  unfold lnF
  rw [svSl_eq, ha]
  split
  · rename_i p n cap hp
    rw [hw, fo_val C ho (v := .int .i64 (.lit (.ofNat n))) (h := s.hp) (by rw [hx]; simp only [evOp, evCall, hargs, htys, List.map_cons, hp, evBuiltin, evLen, ht]; rfl)]
    rfl
  · exact hsl

/-! ### calls -/

theorem evOper_enter {ev : Caller} {o : Oper} {s : St} {f : FuncId} {args : List SV} (he : evOpO C.P C.ora s.hp (evOperand C.gl s.tm) o.op = some [([], .enter f args)]) (kn kb : St → R1) :
    bindO (evOper C.P C.gl C.ora ev o s) (selO kn kb) = bindO (ev f args s.hp s.pc) fun r => selO kn kb (retSt s o.dst r) := by
  unfold evOper
  rw [he, bindO_one]
  unfold evRr
  have : ways s.pc [] = some [] := rfl
  simp only [this, St.un_eq, appK_eq, List.nil_append, evRr1]
  cases ev f args s.hp s.pc with
  | none => rfl
  | some l => exact bindO_map (some l) _ _

noncomputable def retK (w : WF) (s : St) (kn kb : St → R1) : Ret → R1 := fun r =>
  Prod.rec (motive := fun _ => R1) (fun v q => Prod.rec (motive := fun _ => R1) (fun h pc => stR s fun tm nt _ _ => optR v (kb ⟨tm, nt, h, pc⟩) fun v => w v ⟨tm, nt, h, pc⟩ kn) q) r
theorem retK_eq {d : Option Tmp} {w : WF} (hw : WrOK d w) (s : St) (kn kb : St → R1) (r : Ret) : retK w s kn kb r = selO kn kb (retSt s d r) := by
  obtain ⟨v, h, pc⟩ := r
  cases v with
  | none => rfl
  | some v =>
    show w v ⟨s.tm, s.nt, h, pc⟩ kn = _
    rw [hw]
    simp only [retSt, putK_eq]; rfl

/-- The first look at a value. -/
noncomputable def lookR (v : SV) (k : SV → R1) : R1 :=
  SV.rec (motive_1 := fun _ => (SV → R1) → R1) (motive_2 := fun _ => Unit) (fun k => k .bad) (fun x k => k (.bool x)) (fun q x k => k (.int q x)) (fun x k => k (.str x)) (fun a k => k (.ptr a))
    (fun a n c k => k (.sl a n c)) (fun r k => k (.map r)) (fun f a b _ _ k => k (.func f a b)) (fun k => k .nilFunc) (fun t x _ k => k (.iface t x)) (fun k => k .nilIface)
    (fun l _ k => k (.agg l)) (fun l _ k => k (.tup l)) (fun i k => k (.opq i)) () (fun _ _ _ _ => ()) v k
theorem lookR_eq (v : SV) (k : SV → R1) : lookR v k = k v := by cases v <;> rfl
noncomputable def argsV (l : List VF) (s : St) (tl : List SV) (k : List SV → R1) : R1 := List.rec (motive := fun _ => (List SV → R1) → R1) (fun k => k tl) (fun a _ ih k => lookR (a s) fun v => ih fun vs => k (v :: vs)) l k
theorem argsV_eq (l : List VF) (s : St) (tl : List SV) (k : List SV → R1) : argsV l s tl k = k (l.map (fun a => a s) ++ tl) := by
  induction l generalizing k with
  | nil => rfl
  | cons a l ih => show lookR (a s) _ = _; rw [lookR_eq]; exact ih _
noncomputable def appR (a b : List SV) (k : List SV → R1) : R1 := List.rec (motive := fun _ => (List SV → R1) → R1) (fun k => k b) (fun x _ ih k => ih fun vs => k (x :: vs)) a k
theorem appR_eq (a b : List SV) (k : List SV → R1) : appR a b k = k (a ++ b) := by
  induction a generalizing k with
  | nil => rfl
  | cons x a ih => exact ih _

noncomputable def fnR (f : Fn) (n : R1) (k : FuncId → R1) : R1 := match f with
  | .func g => k g
  | _ => n

noncomputable def clF (a : VF) (args : List VF) (w : WF) (sl : OF) : OF := fun call s kn kb => svFunc (a s) (sl call s kn kb) fun f first cap => fnR f (sl call s kn kb) fun g =>
  boolR (hasBody C.P g) (argsV args s cap fun vs => appR first vs fun vs => call g vs s.hp s.pc (retK w s kn kb)) (sl call s kn kb)
theorem clF_ok {o : Oper} {f : Operand} {args : Array Operand} {tys : Array TypeId} {a : VF} {l : List VF} {w : WF} (hx : o.op = .call { callee := .value f, args := args, argTypes := tys }) (ha : VOK C f a)
    (hl : ∀ s, l.map (fun a => a s) = args.toList.map (evOperand C.gl s.tm)) (hw : WrOK o.dst w) : FOK C o (clF C a l w (slowOp C o)) := by
  intro call ev hc s kn kb ho
  have hsl := slowOp_ok C o call ev hc s kn kb
  unfold clF
  rw [svFunc_eq, ha]
  split
  · rename_i fn first cap hf
    unfold fnR
    split
    · rename_i g
      simp only
      rw [boolR_eq]
      split
      · rename_i hb
        rw [argsV_eq, appR_eq, hc, hl]
        rw [evOper_enter C (by rw [ev_of C ho, hx]; simp only [evOp, evCall, hf, asFunc, hb]; rfl)]
        simp only [List.append_assoc]
        exact bindO_congr _ fun r => retK_eq hw s kn kb r
      · exact hsl
    · exact hsl
  · exact hsl

/-! ### whatever leaves an object or two -/

noncomputable def fcLn (m : Nat) (l : List SV) (k : List SV → R1) : R1 :=
  Nat.rec (motive := fun _ => List SV → (List SV → R1) → R1) (fun l k => k l) (fun _ ih l k => List.rec (motive := fun _ => R1) (k []) (fun x l _ => fcV x fun x => ih l fun l => k (x :: l)) l) m l k
theorem fcLn_eq (m : Nat) (l : List SV) (k : List SV → R1) : fcLn m l k = k l := by
  induction m generalizing l k with
  | zero => rfl
  | succ m ih => cases l with
    | nil => rfl
    | cons x l =>
      show fcV x (fun x => fcLn m l fun l => k (x :: l)) = _
      rw [fcV_eq, ih]
noncomputable def fcOn (o : SO) (k : SO → R1) : R1 := match o with
  | .cells cs e s z => fcLn 96 cs fun cs => match s with
    | none => k (.cells cs e none z)
    | some (a, b) => natR a fun a => natR b fun b => k (.cells cs e (some (a, b)) z)
  | o => k o
theorem fcOn_eq (o : SO) (k : SO → R1) : fcOn o k = k o := by
  cases o with
  | cells cs e s z => simp only [fcOn, fcLn_eq]; rcases s with _ | ⟨a, b⟩ <;> simp [natR_eq]
  | _ => rfl
noncomputable def fcOpt (o : Option SO) (k : Option SO → R1) : R1 := match o with
  | none => k none
  | some o => fcOn o fun o => k (some o)
theorem fcOpt_eq (o : Option SO) (k : Option SO → R1) : fcOpt o k = k o := by cases o <;> simp [fcOpt, fcOn_eq]
/-- What is on the way to a place, worked out. -/
noncomputable def fcAt (t : T SO) (i : Nat) (k : T SO → R1) : R1 :=
  T.rec (motive := fun _ => Nat → (T SO → R1) → R1) (fun _ k => k .nil) (fun l v r ihl ihr i k => way i (fcOpt v fun v => k (.node l v r)) (ihl (Nat.div i 2) fun l => k (.node l v r)) (ihr (Nat.sub (Nat.div i 2) 1) fun r => k (.node l v r))) t i k
theorem fcAt_eq (t : T SO) (i : Nat) (k : T SO → R1) : fcAt t i k = k t := by
  induction t generalizing i k with
  | nil => rfl
  | node l v r ihl ihr =>
    show way i (fcOpt v fun v => k (.node l v r)) (fcAt l (i / 2) fun l => k (.node l v r)) (fcAt r (i / 2 - 1) fun r => k (.node l v r)) = _
    rw [fcOpt_eq, ihl, ihr, way_eq]; split <;> (try split) <;> rfl
noncomputable def fcAts (l : List Nat) (t : T SO) (k : T SO → R1) : R1 := List.rec (motive := fun _ => T SO → (T SO → R1) → R1) (fun t k => k t) (fun i _ ih t k => fcAt t i fun t => ih t k) l t k
theorem fcAts_eq (l : List Nat) (t : T SO) (k : T SO → R1) : fcAts l t k = k t := by
  induction l generalizing t k with
  | nil => rfl
  | cons i l ih => show fcAt t i (fun t => fcAts l t k) = _; rw [fcAt_eq, ih]

/-- The one way it has. -/
noncomputable def oneR (r : Option Rs) (n : R1) (f : SV → Hp → R1) : R1 := match r with
  | some l => match l with
    | [] => n
    | x :: rest => match rest with
      | [] => match x with
        | (cs, r) => match cs with
          | [] => match r with
            | .val v h => f v h
            | .bad => n
            | .enter _ _ => n
          | _ :: _ => n
      | _ :: _ => n
  | none => n
theorem oneR_eq {r : Option Rs} {n : R1} {f : SV → Hp → R1} {z : R1} (hn : n = z) (hf : ∀ v h, r = some [([], .val v h)] → f v h = z) : oneR r n f = z := by
  unfold oneR
  split
  · split
    · exact hn
    · split
      · split
        split
        · split
          · rename_i h; exact hf _ _ rfl
          · exact hn
          · exact hn
        · exact hn
      · exact hn
  · exact hn

noncomputable def hpF (at_ : St → List Nat) (w : WF) (o : Oper) : OF := fun call s kn kb =>
  oneR (evOp C.P s.hp (evOperand C.gl s.tm) o.op) (slowOp C o call s kn kb) fun v h => redFK v s.pc fun v => hpR h fun t nx nk => natR nx fun nx => natR nk fun nk => fcAts (at_ s) t fun t => stR s fun tm nt _ pc => w v ⟨tm, nt, ⟨t, nx, nk⟩, pc⟩ kn
theorem hpF_ok {o : Oper} {at_ : St → List Nat} {w : WF} (hw : WrOK o.dst w) : FOK C o (hpF C at_ w o) := by
  intro call ev hc s kn kb ho
  have hsl := slowOp_ok C o call ev hc s kn kb
  refine oneR_eq hsl fun v h he => ?_
  rw [redFK_eq]
  show natR h.nx (fun nx => natR h.nk fun nk => fcAts (at_ s) h.t fun t => w (v.red s.pc) ⟨s.tm, s.nt, ⟨t, nx, nk⟩, s.pc⟩ kn) = _
  rw [natR_eq, natR_eq, fcAts_eq, hw, fo_val C ho he]
/-- Where an operation writes. -/
def baseOf (v : SV) : List Nat := match v with
  | .sl (some (b, _)) _ _ => [b]
  | .ptr (some (b, _)) => [b]
  | .map (some r) => [r]
  | _ => []
def atNew (l : List VF) (s : St) : List Nat := s.hp.nx :: l.flatMap fun a => baseOf (a s)
end

end Go.Sy
