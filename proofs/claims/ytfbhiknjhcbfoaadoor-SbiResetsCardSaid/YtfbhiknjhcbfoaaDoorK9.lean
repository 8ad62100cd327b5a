/- The evaluator for the kernel: all together. -/
import Derived.Test.YtfbhiknjhcbfoaaDoorK5
namespace Go.Sy

def Bx.on {α β : Type} (b : Bx α) (f : α → β) : β := match b with | ⟨v⟩ => f v
theorem Bx.on_eq {α β : Type} (b : Bx α) (f : α → β) : b.on f = f b.v := rfl

section
variable (C : Cfg)

noncomputable def foBin (o : Oper) (op : BinOp) (a b : VF) (w : WF) : Bx OF := match op with
  | .add | .sub | .mul | .and | .or | .xor | .andNot => (arI op).on fun g => ⟨arF op g a b w (slowOp C o)⟩
  | .shl | .shr => (arI op).on fun g => ⟨shF op g a b w (slowOp C o)⟩
  | .quo | .rem => (arI op).on fun g => ⟨quF op g a b w (slowOp C o)⟩
  | .eql | .neq | .lss | .leq | .gtr | .geq => (cmI op).on fun g => ⟨cmF op g a b w (slowOp C o)⟩

noncomputable def foLoad (o : Oper) (t : TypeId) (a : VF) (w : WF) : Bx OF := match tyAgg C.P t with
  | some false => ⟨ldF a w (slowOp C o)⟩
  | some true => match tySize C.P t with
    | some m => fcN m fun m => ⟨ldA m a w (slowOp C o)⟩
    | none => ⟨slowOp C o⟩
  | none => ⟨slowOp C o⟩
noncomputable def foAlloc (o : Oper) (t : TypeId) (w : WF) : Bx OF := match tyZero C.P t with
  | some z => match z.told with
    | true => fcL z.cells fun cs => ⟨alF cs t w⟩
    | false => ⟨slowOp C o⟩
  | none => ⟨slowOp C o⟩
noncomputable def foFA (o : Oper) (t : TypeId) (f : Nat) (a : VF) (w : WF) : Bx OF := match C.P.underlying t with
  | some (.struct fields) => match fields[f]? with
    | some fl => match tySize C.P fl.type with
      | some (_ + 1) => fcN fl.offset fun off => ⟨faF off a w (slowOp C o)⟩
      | _ => ⟨slowOp C o⟩
    | none => ⟨slowOp C o⟩
  | _ => ⟨slowOp C o⟩
noncomputable def foIA (o : Oper) (t : TypeId) (a b : VF) (w : WF) : Bx OF := match C.P.underlying t with
  | some (.slice e) => match tySize C.P e with
    | some m => fcN m fun m => ⟨iaS m a b w (slowOp C o)⟩
    | none => ⟨slowOp C o⟩
  | some (.array n e) => match tySize C.P e with
    | some m => fcN m fun m => fcN n fun n => ⟨iaA n m a b w (slowOp C o)⟩
    | none => ⟨slowOp C o⟩
  | _ => ⟨slowOp C o⟩
noncomputable def foField (o : Oper) (t : TypeId) (f : Nat) (a : VF) (w : WF) : Bx OF := match C.P.underlying t with
  | some (.struct fields) => match fields[f]? with
    | some fl => match tyAgg C.P fl.type with
      | some false => fcN fl.offset fun off => ⟨fdF off a w (slowOp C o)⟩
      | _ => ⟨slowOp C o⟩
    | none => ⟨slowOp C o⟩
  | _ => ⟨slowOp C o⟩
noncomputable def foConv (o : Oper) (t u : TypeId) (a : VF) (w : WF) : Bx OF := match C.P.underlying t with
  | some (.int _) => match C.P.underlying u with
    | some (.int k) => ⟨cvF k a w (slowOp C o)⟩
    | _ => ⟨slowOp C o⟩
  | _ => ⟨hpF C (atNew []) w o⟩
noncomputable def foLen (o : Oper) (args : List Operand) (tys : List TypeId) (w : WF) : Bx OF := match args with
  | x :: _ => match tys with
    | t :: _ => match C.P.underlying t with
      | some (.slice _) => (rdO C.gl x).on fun a => ⟨lnF a w (slowOp C o)⟩
      | _ => ⟨slowOp C o⟩
    | [] => ⟨slowOp C o⟩
  | [] => ⟨slowOp C o⟩
noncomputable def rds (args : List Operand) : List VF := args.map fun x => (rdO C.gl x).v
noncomputable def foCall (o : Oper) (c : Call) (w : WF) : Bx OF := match c with
  | { callee := f, args := args, argTypes := tys } => match f with
    | .value f => (rdO C.gl f).on fun a => ⟨clF C a (rds C args.toList) w (slowOp C o)⟩
    | .builtin b => match b with
      | .len => foLen C o args.toList tys.toList w
      | .append => ⟨hpF C (atNew (rds C args.toList)) w o⟩
      | .copy => ⟨hpF C (atNew (rds C args.toList)) w o⟩
      | _ => ⟨slowOp C o⟩
    | _ => ⟨slowOp C o⟩

noncomputable def foFast (o : Oper) : Bx OF := (wrD o.dst).on fun w => match o.op with
  | .move x => (rdO C.gl x).on fun a => ⟨mvF a w⟩
  | .assign x => (rdO C.gl x).on fun a => ⟨mvF a w⟩
  | .binOp op _ x y _ => (rdO C.gl x).on fun a => (rdO C.gl y).on fun b => foBin C o op a b w
  | .load t x => (rdO C.gl x).on fun a => foLoad C o t a w
  | .store t x y => (rdO C.gl x).on fun a => (rdO C.gl y).on fun b => match tySize C.P t with
    | some m => fcN m fun m => ⟨stF m a b w (slowOp C o)⟩
    | none => ⟨slowOp C o⟩
  | .alloc t => foAlloc C o t w
  | .box t x => (rdO C.gl x).on fun a => ⟨bxF a t w (slowOp C o)⟩
  | .fieldAddr t x f => (rdO C.gl x).on fun a => foFA C o t f a w
  | .indexAddr t x y => (rdO C.gl x).on fun a => (rdO C.gl y).on fun b => foIA C o t a b w
  | .extract x i => (rdO C.gl x).on fun a => ⟨exF i a w (slowOp C o)⟩
  | .field t x f => (rdO C.gl x).on fun a => foField C o t f a w
  | .nilCheck x => (rdO C.gl x).on fun a => ⟨ncF a w (slowOp C o)⟩
  | .convert t u x => (rdO C.gl x).on fun a => foConv C o t u a w
  | .unOp op _ x => match op with
    | .not => (rdO C.gl x).on fun a => ⟨notF a w (slowOp C o)⟩
    | _ => ⟨slowOp C o⟩
  | .pick c x y => (rdO C.gl c).on fun c => (rdO C.gl x).on fun a => (rdO C.gl y).on fun b => ⟨pkF c a b w (slowOp C o)⟩
  | .call c => foCall C o c w
  | .makeSlice _ _ _ => ⟨hpF C (atNew []) w o⟩
  | .buildSlice _ _ _ => ⟨hpF C (atNew []) w o⟩
  | .makeMap _ _ => ⟨hpF C (atNew []) w o⟩
  | .mapUpdate _ m _ _ => ⟨hpF C (atNew (rds C [m])) w o⟩
  | .insert _ m _ _ => ⟨hpF C (atNew (rds C [m])) w o⟩
  | _ => ⟨slowOp C o⟩

theorem rdV (x : Operand) : VOK C x (rdO C.gl x).v := fun s => rdO_ok C.gl x s
theorem slowF (o : Oper) : FOK C o (slowOp C o) := FOK.of C (slowOp_ok C o)

theorem foFast_ok (o : Oper) : FOK C o (foFast C o).v := by
  have hw := wrD_ok o.dst
  unfold foFast
  rw [Bx.on_eq]
  split
  · rename_i x h; exact mvF_ok C (.inl h) (rdV C x) hw
  · rename_i x h; exact mvF_ok C (.inr h) (rdV C x) hw
  · rename_i op t x y t' h
    simp only [Bx.on_eq]
    cases op <;> first
      | exact arF_ok C h rfl (rdV C x) (rdV C y) hw
      | exact shF_ok C h (by simp) (rdV C x) (rdV C y) hw
      | exact quF_ok C h (by simp) (rdV C x) (rdV C y) hw
      | exact cmF_ok C h rfl (rdV C x) (rdV C y) hw
  · rename_i t x h
    simp only [Bx.on_eq, foLoad]
    split
    · rename_i ht; exact ldF_ok C h ht (rdV C x) hw
    · rename_i ht
      split
      · rename_i m hm; rw [fcN_eq]; exact ldA_ok C h ht hm (rdV C x) hw
      · exact slowF C o
    · exact slowF C o
  · rename_i t x y h
    simp only [Bx.on_eq]
    split
    · rename_i m hm; rw [fcN_eq]; exact stF_ok C h hm (rdV C x) (rdV C y) hw
    · exact slowF C o
  · rename_i t h
    simp only [foAlloc]
    split
    · rename_i z hz
      split
      · rename_i hzt; rw [fcL_eq]; exact alF_ok C h hz hzt hw
      · exact slowF C o
    · exact slowF C o
  · rename_i t x h; exact bxF_ok C h (rdV C x) hw
  · rename_i t x f h
    simp only [Bx.on_eq, foFA]
    split
    · rename_i fields ht
      split
      · rename_i fl hf
        split
        · rename_i n hs; rw [fcN_eq]; exact faF_ok C h ht hf hs (rdV C x) hw
        · exact slowF C o
      · exact slowF C o
    · exact slowF C o
  · rename_i t x y h
    simp only [Bx.on_eq, foIA]
    split
    · rename_i e ht
      split
      · rename_i m hm; rw [fcN_eq]; exact iaS_ok C h ht hm (rdV C x) (rdV C y) hw
      · exact slowF C o
    · rename_i n e ht
      split
      · rename_i m hm; rw [fcN_eq, fcN_eq]; exact iaA_ok C h ht hm (rdV C x) (rdV C y) hw
      · exact slowF C o
    · exact slowF C o
  · rename_i x i h; exact exF_ok C h (rdV C x) hw
  · rename_i t x f h
    simp only [Bx.on_eq, foField]
    split
    · rename_i fields ht
      split
      · rename_i fl hf
        split
        · rename_i hs; rw [fcN_eq]; exact fdF_ok C h ht hf hs (rdV C x) hw
        · exact slowF C o
      · exact slowF C o
    · exact slowF C o
  · rename_i x h; exact ncF_ok C h (rdV C x) hw
  · rename_i t u x h
    simp only [Bx.on_eq, foConv]
    split
    · rename_i j ht
      split
      · rename_i k hu; exact cvF_ok C h ht hu (rdV C x) hw
      · exact slowF C o
    · exact hpF_ok C hw
  · rename_i op t x h
    split
    · exact notF_ok C h (rdV C x) hw
    · exact slowF C o
  · rename_i c x y h; exact pkF_ok C h (rdV C c) (rdV C x) (rdV C y) hw
  · rename_i c h
    obtain ⟨f, args, tys⟩ := c
    simp only [foCall]
    split
    · rename_i f
      refine clF_ok C h (rdV C f) (fun s => ?_) hw
      simp only [rds, List.map_map]
      exact List.map_congr_left fun x _ => rdO_ok C.gl x s
    · split
      · simp only [foLen]
        split
        · rename_i x xs hxs
          split
          · rename_i t ts hts
            split
            · rename_i e ht; exact lnF_ok C h hxs hts ht (rdV C x) hw
            · exact slowF C o
          · exact slowF C o
        · exact slowF C o
      · exact hpF_ok C hw
      · exact hpF_ok C hw
      · exact slowF C o
    · exact slowF C o
  · exact hpF_ok C hw
  · exact hpF_ok C hw
  · exact hpF_ok C hw
  · exact hpF_ok C hw
  · exact hpF_ok C hw
  · exact slowF C o

/-- Is there something that stays to be read? -/
noncomputable def oraF (o : Oper) (w : WF) (f : OF) : OF := fun call s kn kb => optR (C.ora o.op (evOperand C.gl s.tm)) (f call s kn kb) fun v => retF w v s kn
theorem oraF_ok {o : Oper} {w : WF} {f : OF} (hw : WrOK o.dst w) (hf : FOK C o f) : OpOK C o (oraF C o w f) := by
  intro call ev hc s kn kb
  unfold oraF
  rw [optR_eq]
  split
  · rename_i v hv
    rw [retF_eq hw, evOper_val C (v := v) (h := s.hp) (by unfold evOpO; rw [hv])]
  · rename_i hv; exact hf call ev hc s kn kb hv
noncomputable def foOp (fr : Op → Bool) (o : Oper) : Bx OF := match fr o.op with
  | true => foFast C o
  | false => (wrD o.dst).on fun w => (foFast C o).on fun f => ⟨oraF C o w f⟩

/-- The results of a function. -/
noncomputable def enSlow (fn : Func) : St → (SV → R1) → R1 := fun s k => match evResults C.P fn s with
  | some v => k v
  | none => none
noncomputable def en0K : St → (SV → R1) → R1 := fun _ k => k (.tup [])
noncomputable def en1K (a : VF) : St → (SV → R1) → R1 := fun s k => k (a s)
noncomputable def en2K (a b : VF) : St → (SV → R1) → R1 := fun s k => k (.tup [a s, b s])
noncomputable def enF (fn : Func) : Bx (St → (SV → R1) → R1) := match fn.results.toList with
  | [] => ⟨en0K⟩
  | [.tmp t] => (rdT t).on fun a => ⟨en1K a⟩
  | [.tmp t, .tmp u] => (rdT t).on fun a => (rdT u).on fun b => ⟨en2K a b⟩
  | _ => ⟨enSlow C fn⟩
theorem enF_ok (fn : Func) (s : St) (k : SV → R1) : (enF C fn).v s k = match evResults C.P fn s with | some v => k v | none => none := by
  unfold enF
  split
  · rename_i h; simp only [evResults, h]; rfl
  · rename_i t h; simp only [evResults, h, Bx.on_eq, en1K, rdT_ok, evResult]
  · rename_i t u h; simp only [evResults, h, Bx.on_eq, en2K, rdT_ok, evResult]
  · rfl

noncomputable def kit (fr : Op → Bool) (hfr : ∀ op e, fr op = true → C.ora op e = none) : Kit C where
  fo := foOp C fr
  rd := rdO C.gl
  en := enF C
  ok := fun o => by
    unfold foOp
    cases h : fr o.op with
    | true => exact fun call ev hc s kn kb => foFast_ok C o call ev hc s kn kb (hfr _ _ h)
    | false => exact oraF_ok C (wrD_ok _) (foFast_ok C o)
  rdOk := rdO_ok C.gl
  enOk := enF_ok C
end
end Go.Sy
