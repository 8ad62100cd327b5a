/- The evaluator for the kernel: operations, each turned. -/
import Derived.Test.YtfbhiknjhcbfoaaDoorK2
namespace Go.Sy

section
variable (C : Cfg)

theorem putHp (s : St) (h : Hp) (d : Option Tmp) (v : SV) : ({ s.put d v with hp := h } : St) = ({ s with hp := h } : St).put d v := by
  cases d with
  | none => rfl
  | some t => simp only [St.put]; cases Nat.ble (Nat.succ t) s.nt <;> rfl

/-- One way, and a value. -/
theorem evOper_val {ev : Caller} {o : Oper} {s : St} {v : SV} {h : Hp} (he : evOpO C.P C.ora s.hp (evOperand C.gl s.tm) o.op = some [([], .val v h)]) (kn kb : St → R1) :
    bindO (evOper C.P C.gl C.ora ev o s) (selO kn kb) = kn (({ s with hp := h } : St).put o.dst (v.red s.pc)) := by
  unfold evOper
  rw [he, bindO_one, evRr_eq]
  have : ways s.pc [] = some [] := rfl
  rw [this]
  simp only [appK_eq, putK_eq, fcH_eq, ite_self, List.nil_append]
  rw [bindO_one]
  exact congrArg kn (putHp s h o.dst (v.red s.pc))
theorem evOper_bad {ev : Caller} {o : Oper} {s : St} (he : evOpO C.P C.ora s.hp (evOperand C.gl s.tm) o.op = some [([], .bad)]) (kn kb : St → R1) :
    bindO (evOper C.P C.gl C.ora ev o s) (selO kn kb) = kb s := by
  unfold evOper
  rw [he, bindO_one, evRr_eq]
  have : ways s.pc [] = some [] := rfl
  rw [this]
  simp only [appK_eq, List.nil_append]
  rw [bindO_one]; rfl

/-! ## a value that is handed on -/

noncomputable def redB (x : X) (pc : List X) (k : SV → R1) : R1 := xTt x (fcV ((SV.bool x).red pc) k) fun b => boolR b (k (.bool (.tt true))) (k (.bool (.tt false)))
noncomputable def redN (q : IntKind) (x : X) (pc : List X) (k : SV → R1) : R1 := xIte x (k (.int q x)) fun _ _ _ => fcV ((SV.int q x).red pc) k
/-- As it is, but for what is known of it. -/
noncomputable def redK (v : SV) (pc : List X) (k : SV → R1) : R1 :=
  SV.rec (motive_1 := fun _ => List X → (SV → R1) → R1) (motive_2 := fun _ => Unit) (fun _ k => k .bad) (fun x pc k => redB x pc k) (fun q x pc k => redN q x pc k) (fun x _ k => k (.str x)) (fun a _ k => k (.ptr a))
    (fun a n c _ k => k (.sl a n c)) (fun r _ k => k (.map r)) (fun f a b _ _ _ k => k (.func f a b)) (fun _ k => k .nilFunc) (fun t x _ _ k => k (.iface t x)) (fun _ k => k .nilIface)
    (fun l _ _ k => k (.agg l)) (fun l _ _ k => k (.tup l)) (fun i _ k => k (.opq i)) () (fun _ _ _ _ => ()) v pc k
theorem redK_eq (v : SV) (pc : List X) (k : SV → R1) : redK v pc k = k (v.red pc) := by
  cases v with
  | bool x =>
    show redB x pc k = _
    unfold redB
    rw [xTt_eq]
    split
    · rename_i b; rw [boolR_eq]
      cases b <;> rfl
    · exact fcV_eq _ _
  | int q x =>
    show redN q x pc k = _
    unfold redN
    rw [xIte_eq]
    split
    · exact fcV_eq _ _
    · rename_i h
      have : x.redI pc = x := by cases x <;> first | rfl | exact absurd rfl (h _ _ _)
      show _ = k (.int q (x.redI pc))
      rw [this]
  | _ => rfl
/-- Worked out. -/
noncomputable def redFK (v : SV) (pc : List X) (k : SV → R1) : R1 := fcV (v.red pc) k
theorem redFK_eq (v : SV) (pc : List X) (k : SV → R1) : redFK v pc k = k (v.red pc) := fcV_eq _ _

noncomputable def retV (w : WF) (v : SV) (s : St) (k : St → R1) : R1 := redK v s.pc fun v => w v s k
theorem retV_eq {d : Option Tmp} {w : WF} (hw : WrOK d w) (v : SV) (s : St) (k : St → R1) : retV w v s k = k (s.put d (v.red s.pc)) := by
  unfold retV; rw [redK_eq, hw]
noncomputable def retF (w : WF) (v : SV) (s : St) (k : St → R1) : R1 := redFK v s.pc fun v => w v s k
theorem retF_eq {d : Option Tmp} {w : WF} (hw : WrOK d w) (v : SV) (s : St) (k : St → R1) : retF w v s k = k (s.put d (v.red s.pc)) := by
  unfold retF; rw [redFK_eq, hw]

/-- A way to do an operation where nothing is read off what stays. -/
def FOK (o : Oper) (f : OF) : Prop := ∀ call ev, CallOKK call ev → ∀ s kn kb, C.ora o.op (evOperand C.gl s.tm) = none → f call s kn kb = bindO (evOper C.P C.gl C.ora ev o s) (selO kn kb)
theorem FOK.of {o : Oper} {f : OF} (h : OpOK C o f) : FOK C o f := fun call ev hc s kn kb _ => h call ev hc s kn kb
def VOK (x : Operand) (a : VF) : Prop := ∀ s, a s = evOperand C.gl s.tm x

theorem ev_of {o : Oper} {e : Operand → SV} (h : C.ora o.op e = none) (hp : Hp) : evOpO C.P C.ora hp e o.op = evOp C.P hp e o.op := by
  unfold evOpO; rw [h]

/-! ### moves -/

noncomputable def mvF (a : VF) (w : WF) : OF := fun _ s kn _ => retV w (a s) s kn
theorem mvF_ok {o : Oper} {x : Operand} {a : VF} {w : WF} (hx : o.op = .move x ∨ o.op = .assign x) (ha : VOK C x a) (hw : WrOK o.dst w) : FOK C o (mvF a w) := by
  intro call ev hc s kn kb ho
  have he : evOpO C.P C.ora s.hp (evOperand C.gl s.tm) o.op = some [([], .val (evOperand C.gl s.tm x) s.hp)] := by
    rw [ev_of C ho]; rcases hx with h | h <;> rw [h] <;> rfl
  rw [evOper_val C he]
  show retV w (a s) s kn = _
  rw [retV_eq hw, ha]

/-! ### two numbers -/

def plainOp : BinOp → Bool
  | .add | .sub | .mul | .and | .or | .xor | .andNot => true
  | _ => false
def cmpOp : BinOp → Bool
  | .eql | .neq | .lss | .leq | .gtr | .geq => true
  | _ => false
theorem evBin_ar {P : Program} {op : BinOp} (hop : plainOp op = true) (t : TypeId) (x y : Operand) (k : IntKind) (a b : X) : evBin P op t x y (.int k a) (.int k b) = some [([], some (.int k (mkAr op k a b)))] := by
  cases op <;> first | (cases hop; done) | (show (if k = k then _ else none) = _; rw [if_pos rfl])
theorem evBin_cm {P : Program} {op : BinOp} (hop : cmpOp op = true) (t : TypeId) (x y : Operand) (k : IntKind) (a b : X) : evBin P op t x y (.int k a) (.int k b) = some [([], some (.bool (mkCmp op a b)))] := by
  cases op <;> first | (cases hop; done) | (show (if k = k then _ else none) = _; rw [if_pos rfl])
theorem evBin_sh {P : Program} {op : BinOp} (hop : op = .shl ∨ op = .shr) (t : TypeId) (x y : Operand) (k k' : IntKind) (a : X) (n : Int) (hn : ¬ n < 0) : evBin P op t x y (.int k a) (.int k' (.lit n)) = some [([], some (.int k (mkAr op k a (.lit n))))] := by
  rcases hop with rfl | rfl <;> (show (if n < 0 then _ else _) = _; rw [if_neg hn])
theorem evBin_qu {P : Program} {op : BinOp} (hop : op = .quo ∨ op = .rem) (t : TypeId) (x y : Operand) (k : IntKind) (a : X) (n : Int) (hn : ¬ n = 0) : evBin P op t x y (.int k a) (.int k (.lit n)) = some [([], some (.int k (mkAr op k a (.lit n))))] := by
  rcases hop with rfl | rfl <;> (show (if k = k then (if n = 0 then _ else _) else none) = _; rw [if_pos rfl, if_neg hn])

noncomputable def mkArR (op : BinOp) (k : IntKind) (f : IF) (x y : X) (kont : X → R1) : R1 :=
  xLit x (kont (.ar op k x y)) fun n => xLit y (kont (.ar op k x y)) fun m => f k n m fun r => kont (.lit r)
theorem mkArR_eq (op : BinOp) (k : IntKind) (x y : X) (kont : X → R1) : mkArR op k (arI op).v x y kont = kont (mkAr op k x y) := by
  unfold mkArR mkAr
  simp only [xLit_eq, arI_ok]
  cases x <;> first | rfl | (cases y <;> rfl)
theorem mkAr_red (op : BinOp) (k : IntKind) (x y : X) (pc : List X) : (mkAr op k x y).redI pc = mkAr op k x y := by
  unfold mkAr
  cases x <;> first | rfl | (cases y <;> rfl)

noncomputable def arF (op : BinOp) (g : IF) (a b : VF) (w : WF) (sl : OF) : OF := fun call s kn kb =>
  svInt (a s) (sl call s kn kb) fun k x => svInt (b s) (sl call s kn kb) fun k' y => boolR (kindIs k k') (mkArR op k g x y fun r => w (.int k r) s kn) (sl call s kn kb)

theorem arF_ok {o : Oper} {op : BinOp} {t t' : TypeId} {x y : Operand} {a b : VF} {w : WF} (hx : o.op = .binOp op t x y t') (hop : plainOp op = true) (ha : VOK C x a) (hb : VOK C y b) (hw : WrOK o.dst w) :
    FOK C o (arF op (arI op).v a b w (slowOp C o)) := by
  intro call ev hc s kn kb ho
  have hsl := slowOp_ok C o call ev hc s kn kb
  unfold arF
  rw [svInt_eq, ha]
  split
  · rename_i k u hu
    rw [svInt_eq, hb]
    split
    · rename_i k' v hv
      rw [boolR_eq]
      split
      · rename_i hk
        rw [kindIs_iff] at hk
        subst hk
        have he : evOpO C.P C.ora s.hp (evOperand C.gl s.tm) o.op = some [([], .val (.int k (mkAr op k u v)) s.hp)] := by
          rw [ev_of C ho, hx]
          simp only [evOp, hu, hv, evBin_ar hop]; rfl
        rw [evOper_val C he, mkArR_eq, hw]
        show _ = kn (s.put o.dst (.int k ((mkAr op k u v).redI s.pc)))
        rw [mkAr_red]
      · exact hsl
    · exact hsl
  · exact hsl

/-- Shifts by a number that is told; quotients by one that is not 0. -/
noncomputable def shF (op : BinOp) (g : IF) (a b : VF) (w : WF) (sl : OF) : OF := fun call s kn kb =>
  svInt (a s) (sl call s kn kb) fun k x => svInt (b s) (sl call s kn kb) fun _ y => xLit y (sl call s kn kb) fun n => nnI n (sl call s kn kb) fun _ => mkArR op k g x y fun r => w (.int k r) s kn
theorem shF_ok {o : Oper} {op : BinOp} {t t' : TypeId} {x y : Operand} {a b : VF} {w : WF} (hx : o.op = .binOp op t x y t') (hop : op = .shl ∨ op = .shr) (ha : VOK C x a) (hb : VOK C y b) (hw : WrOK o.dst w) :
    FOK C o (shF op (arI op).v a b w (slowOp C o)) := by
  intro call ev hc s kn kb ho
  have hsl := slowOp_ok C o call ev hc s kn kb
  unfold shF
  rw [svInt_eq, ha]
  split
  · rename_i k u hu
    rw [svInt_eq, hb]
    split
    · rename_i k' v hv
      rw [xLit_eq]
      split
      · rename_i n
        rw [nnI_eq]
        split
        · rename_i n
          have he : evOpO C.P C.ora s.hp (evOperand C.gl s.tm) o.op = some [([], .val (.int k (mkAr op k u (.lit (.ofNat n)))) s.hp)] := by
            rw [ev_of C ho, hx]
            simp only [evOp, hu, hv]
            have : ¬ (Int.ofNat n < 0) := by simp only [Int.ofNat_eq_natCast]; omega
            rw [evBin_sh hop _ _ _ _ _ _ _ this]; rfl
          rw [evOper_val C he, mkArR_eq, hw]
          show _ = kn (s.put o.dst (.int k ((mkAr op k u (.lit (.ofNat n))).redI s.pc)))
          rw [mkAr_red]
        · exact hsl
      · exact hsl
    · exact hsl
  · exact hsl

noncomputable def posI (x : Int) (n f : R1) : R1 := nnI x n fun a => Nat.rec (motive := fun _ => R1) n (fun _ _ => f) a
theorem posI_eq (x : Int) (n f : R1) : posI x n f = if 0 < x then f else n := by
  unfold posI; rw [nnI_eq]
  cases x with
  | ofNat a => cases a with
    | zero => rfl
    | succ a => rw [if_pos (by simp only [Int.ofNat_eq_natCast]; omega)]
  | negSucc a => rfl
noncomputable def quF (op : BinOp) (g : IF) (a b : VF) (w : WF) (sl : OF) : OF := fun call s kn kb =>
  svInt (a s) (sl call s kn kb) fun k x => svInt (b s) (sl call s kn kb) fun k' y => boolR (kindIs k k') (xLit y (sl call s kn kb) fun n => posI n (sl call s kn kb) (mkArR op k g x y fun r => w (.int k r) s kn)) (sl call s kn kb)
theorem quF_ok {o : Oper} {op : BinOp} {t t' : TypeId} {x y : Operand} {a b : VF} {w : WF} (hx : o.op = .binOp op t x y t') (hop : op = .quo ∨ op = .rem) (ha : VOK C x a) (hb : VOK C y b) (hw : WrOK o.dst w) :
    FOK C o (quF op (arI op).v a b w (slowOp C o)) := by
  intro call ev hc s kn kb ho
  have hsl := slowOp_ok C o call ev hc s kn kb
  unfold quF
  rw [svInt_eq, ha]
  split
  · rename_i k u hu
    rw [svInt_eq, hb]
    split
    · rename_i k' v hv
      rw [boolR_eq]
      split
      · rename_i hk
        rw [kindIs_iff] at hk
        subst hk
        rw [xLit_eq]
        split
        · rename_i n
          rw [posI_eq]
          split
          · rename_i hn
            have he : evOpO C.P C.ora s.hp (evOperand C.gl s.tm) o.op = some [([], .val (.int k (mkAr op k u (.lit n))) s.hp)] := by
              rw [ev_of C ho, hx]
              simp only [evOp, hu, hv]
              have : ¬ (n = 0) := by omega
              rw [evBin_qu hop _ _ _ _ _ _ this]; rfl
            rw [evOper_val C he, mkArR_eq, hw]
            show _ = kn (s.put o.dst (.int k ((mkAr op k u (.lit n)).redI s.pc)))
            rw [mkAr_red]
          · exact hsl
        · exact hsl
      · exact hsl
    · exact hsl
  · exact hsl

/-! ### comparisons -/

abbrev BF := Int → Int → R1 → R1 → R1
noncomputable def slowB (op : BinOp) : BF := fun x y t f => boolR (cmpD op x y) t f
noncomputable def eqB : BF := fun x y t f => boolR (intIs x y) t f
noncomputable def neB : BF := fun x y t f => boolR (intIs x y) f t
noncomputable def ltB : BF := fun x y t f => nnI x (slowB .lss x y t f) fun a => nnI y (slowB .lss x y t f) fun b => boolR (Nat.ble (Nat.succ a) b) t f
noncomputable def leB : BF := fun x y t f => nnI x (slowB .leq x y t f) fun a => nnI y (slowB .leq x y t f) fun b => boolR (Nat.ble a b) t f
noncomputable def gtB : BF := fun x y t f => nnI x (slowB .gtr x y t f) fun a => nnI y (slowB .gtr x y t f) fun b => boolR (Nat.ble (Nat.succ b) a) t f
noncomputable def geB : BF := fun x y t f => nnI x (slowB .geq x y t f) fun a => nnI y (slowB .geq x y t f) fun b => boolR (Nat.ble b a) t f
noncomputable def cmI (op : BinOp) : Bx BF := match op with
  | .eql => ⟨eqB⟩ | .neq => ⟨neB⟩ | .lss => ⟨ltB⟩ | .leq => ⟨leB⟩ | .gtr => ⟨gtB⟩ | .geq => ⟨geB⟩ | op => ⟨slowB op⟩
theorem ble_dec (a b : Nat) : Nat.ble a b = decide ((a : Int) ≤ (b : Int)) := by
  rw [Bool.eq_iff_iff, Nat.ble_eq, decide_eq_true_iff]; omega
theorem cmI_ok (op : BinOp) (x y : Int) (t f : R1) : (cmI op).v x y t f = if cmpD op x y then t else f := by
  cases op <;> simp only [cmI] <;> try exact boolR_eq _ _ _
  · unfold eqB; rw [boolR_eq]
    have : intIs x y = cmpD .eql x y := by rw [Bool.eq_iff_iff, intIs_iff]; simp [cmpD]
    rw [this]
  · unfold neB; rw [boolR_eq]
    have : intIs x y = !cmpD .neq x y := by rw [Bool.eq_iff_iff, intIs_iff]; simp [cmpD, bne]
    rw [this]; cases cmpD .neq x y <;> rfl
  · unfold ltB slowB; simp only [nnI_eq, boolR_eq]
    cases x <;> cases y <;> try rfl
    rename_i a b
    have : Nat.ble (Nat.succ a) b = cmpD .lss (Int.ofNat a) (Int.ofNat b) := by rw [ble_dec]; simp only [cmpD, Int.ofNat_eq_natCast]; congr 1
    simp only [this]
  · unfold leB slowB; simp only [nnI_eq, boolR_eq]
    cases x <;> cases y <;> try rfl
    rename_i a b
    have : Nat.ble a b = cmpD .leq (Int.ofNat a) (Int.ofNat b) := by rw [ble_dec]; rfl
    simp only [this]
  · unfold gtB slowB; simp only [nnI_eq, boolR_eq]
    cases x <;> cases y <;> try rfl
    rename_i a b
    have : Nat.ble (Nat.succ b) a = cmpD .gtr (Int.ofNat a) (Int.ofNat b) := by rw [ble_dec]; simp only [cmpD, Int.ofNat_eq_natCast]; congr 1
    simp only [this]
  · unfold geB slowB; simp only [nnI_eq, boolR_eq]
    cases x <;> cases y <;> try rfl
    rename_i a b
    have : Nat.ble b a = cmpD .geq (Int.ofNat a) (Int.ofNat b) := by rw [ble_dec]; rfl
    simp only [this]

def tV : SV := .bool (.tt true)
def fV : SV := .bool (.tt false)
noncomputable def cmF (op : BinOp) (g : BF) (a b : VF) (w : WF) (sl : OF) : OF := fun call s kn kb =>
  svInt (a s) (sl call s kn kb) fun k x => svInt (b s) (sl call s kn kb) fun k' y => boolR (kindIs k k')
    (xLit x (retF w (.bool (mkCmpX op x y)) s kn) fun n => xLit y (retF w (.bool (mkCmpX op x y)) s kn) fun m => g n m (w (.bool (.tt true)) s kn) (w (.bool (.tt false)) s kn)) (sl call s kn kb)
theorem mkCmp_lit (op : BinOp) (n m : Int) : mkCmp op (.lit n) (.lit m) = .tt (cmpD op n m) := rfl
theorem mkCmp_x {op : BinOp} {x y : X} (h : ∀ n m, ¬ (x = .lit n ∧ y = .lit m)) : mkCmp op x y = mkCmpX op x y := by
  unfold mkCmp
  cases x <;> first | rfl | (cases y <;> first | rfl | exact absurd ⟨rfl, rfl⟩ (h _ _))
theorem cmF_ok {o : Oper} {op : BinOp} {t t' : TypeId} {x y : Operand} {a b : VF} {w : WF} (hx : o.op = .binOp op t x y t') (hop : cmpOp op = true) (ha : VOK C x a) (hb : VOK C y b) (hw : WrOK o.dst w) :
    FOK C o (cmF op (cmI op).v a b w (slowOp C o)) := by
  intro call ev hc s kn kb ho
  have hsl := slowOp_ok C o call ev hc s kn kb
  unfold cmF
  rw [svInt_eq, ha]
  split
  · rename_i k u hu
    rw [svInt_eq, hb]
    split
    · rename_i k' v hv
      rw [boolR_eq]
      split
      · rename_i hk
        rw [kindIs_iff] at hk
        subst hk
        have he : evOpO C.P C.ora s.hp (evOperand C.gl s.tm) o.op = some [([], .val (.bool (mkCmp op u v)) s.hp)] := by
          rw [ev_of C ho, hx]
          simp only [evOp, hu, hv, evBin_cm hop]; rfl
        rw [evOper_val C he, xLit_eq]
        split
        · rename_i n
          rw [xLit_eq]
          split
          · rename_i m
            rw [cmI_ok, hw, hw, mkCmp_lit]
            cases cmpD op n m <;> rfl
          · rename_i hne
            rw [retF_eq hw, mkCmp_x (fun n' m e => hne m e.2)]
        · rename_i hne
          rw [retF_eq hw, mkCmp_x (fun n m e => hne n e.1)]
      · exact hsl
    · exact hsl
  · exact hsl
end

end Go.Sy
