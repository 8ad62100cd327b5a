/- A symbolic evaluator for the model's programs: the evaluator. -/
import Derived.Test.YtfbhiknjhcbfoaaDoorSy1
namespace Go.Sy

inductive Rr
  | val (v : SV) (h : Hp)
  | bad
  | enter (f : FuncId) (args : List SV)
  deriving Inhabited, Repr

abbrev Rs := List (List X × Rr)

def one (v : SV) (h : Hp) : Option Rs := some [([], .val v h)]

/-! ## the program's tables -/

def tySize (P : Program) (t : TypeId) : Option Nat := (P.info? t).map (·.size)
def tyBytes (P : Program) (t : TypeId) : Option Nat := (P.info? t).map (·.bytes)
def tyZero (P : Program) (t : TypeId) : Option SV := ((P.info? t).bind (·.zero)).map ofV
def tyAgg (P : Program) (t : TypeId) : Option Bool :=
  match P.underlying t with
  | some (.struct _) | some (.array _ _) => some true
  | some _ => some false
  | none => none

/-! ## lists -/

def cut (l : List SV) (o n : Nat) : Option (List SV) :=
  let s := (l.drop o).take n
  if s.length = n then some s else none

def splice (l : List SV) (o : Nat) (vs : List SV) : Option (List SV) :=
  if o + vs.length ≤ l.length then some (l.take o ++ vs ++ l.drop (o + vs.length)) else none

/-! ## merging two values under a condition -/

mutual
def mrg (c : X) : SV → SV → SV
  | .bool x, .bool y => .bool (mkIte c x y)
  | .int k x, .int k' y => if k = k' then .int k (mkIte c x y) else .bad
  | .str x, .str y => .str (mkIte c x y)
  | .ptr a, .ptr b => if a = b then .ptr a else .bad
  | .sl a n k, .sl b m k' => if a = b ∧ n = m ∧ k = k' then .sl a n k else .bad
  | .map a, .map b => if a = b then .map a else .bad
  | .nilFunc, .nilFunc => .nilFunc
  | .nilIface, .nilIface => .nilIface
  | .opq i, .opq j => if i = j then .opq i else .bad
  | .agg xs, .agg ys => if xs.length = ys.length then .agg (mrgL c xs ys) else .bad
  | .tup xs, .tup ys => if xs.length = ys.length then .tup (mrgL c xs ys) else .bad
  | .func f a b, .func g a' b' => if f = g ∧ a.length = a'.length ∧ b.length = b'.length then .func f (mrgL c a a') (mrgL c b b') else .bad
  | .iface t x, .iface u y => if t = u then .iface t (mrg c x y) else .bad
  | _, _ => .bad
def mrgL (c : X) : List SV → List SV → List SV
  | x :: xs, y :: ys => mrg c x y :: mrgL c xs ys
  | _, _ => []
end

/-! ## operations -/

def slot (tm : Tm) (t : Tmp) : SV := tm.get t

def evOperand (gl : Nat → Option Nat) (tm : Tm) : Operand → SV
  | .tmp t => slot tm t
  | .const v => ofV v
  | .global g => match gl g with
    | some i => .ptr (some (i, 0))
    | none => .bad
  | .func f => .func (.func f) [] []

def objCells (h : Hp) (b : Nat) : Option (List SV × TypeId × Option (Nat × Nat) × (Nat × Nat)) :=
  match h.t.get b with
  | some (.cells cs el sl fz) => some (cs, el, sl, fz)
  | _ => none

def evLoad (P : Program) (h : Hp) (t : TypeId) (a : SV) : Option SV :=
  match a with
  | .ptr (some (b, o)) =>
    match objCells h b with
    | some (cs, _, _, _) =>
      match tyAgg P t with
      | some true => match tySize P t with
        | some n => (cut cs o n).map .agg
        | none => none
      | some false => cs[o]?
      | none => none
    | none => none
  | _ => none

def storable (vs : List SV) : Bool := vs.all SV.one

def evStore (P : Program) (h : Hp) (t : TypeId) (a v : SV) : Option Hp :=
  match a with
  | .ptr (some (b, o)) =>
    match objCells h b with
    | some (cs, el, sl, fz) =>
      if v.told && storable v.cells && (tySize P t == some v.cells.length) && (fz == (0, 0)) then
        (splice cs o v.cells).map fun cs' => h.put b (.cells cs' el sl fz)
      else none
    | none => none
  | _ => none

/-- The parts of a composite, laid into its cells. -/
def fillSV (place : Nat → Option (Nat × Nat)) (cells : List SV) : List (Nat × SV) → Option (List SV)
  | [] => some cells
  | (i, v) :: rest =>
    match place i with
    | none => none
    | some (off, size) =>
      if v.told && v.cells.length == size then
        match splice cells off v.cells with
        | some cs => fillSV place cs rest
        | none => none
      else none

def structPlace (P : Program) (fields : Array Field) (i : Nat) : Option (Nat × Nat) :=
  match fields[i]? with
  | some f => (tySize P f.type).map fun s => (f.offset, s)
  | none => none

def evBuild (P : Program) (t : TypeId) (parts : List (Nat × SV)) : Option SV :=
  match tyZero P t, P.underlying t with
  | some z, some (.struct fields) =>
    if z.told && fields.toList.all (fun f => (tySize P f.type).isSome) then (fillSV (structPlace P fields) z.cells parts).map .agg else none
  | some z, some (.array _ elem) =>
    match tySize P elem with
    | some size => if z.told then (fillSV (fun i => some (i * size, size)) z.cells parts).map .agg else none
    | none => none
  | _, _ => none

def rep (z : List SV) : Nat → List SV
  | 0 => []
  | n + 1 => z ++ rep z n

def evBuildSlice (P : Program) (h : Hp) (t : TypeId) (len : Nat) (parts : List (Nat × SV)) : Option (SV × Hp) :=
  match P.underlying t with
  | some (.slice elem) =>
    match tySize P elem, tyZero P elem with
    | some size, some z =>
      if z.told && z.cells.length == size && decide (0 < size) && decide (len * size ≤ 16777216) then
        (fillSV (fun i => some (i * size, size)) (rep z.cells len) parts).map fun cs => (.sl (some (h.nx, 0)) len (.exact len), h.new (.cells cs elem none (0, 0)))
      else none
    | _, _ => none
  | _ => none

def evFieldAddr (P : Program) (s : TypeId) (x : SV) (f : Nat) : Option SV :=
  match P.underlying s, x with
  | some (.struct fields), .ptr (some (b, o)) =>
    match fields[f]? with
    | some fl => match tySize P fl.type with
      | some (_ + 1) => some (.ptr (some (b, o + fl.offset)))
      | _ => none
    | none => none
  | _, _ => none

def part (P : Program) (t : TypeId) (cs : List SV) (off : Nat) : Option SV :=
  match tyAgg P t with
  | some true => match tySize P t with
    | some n => (cut cs off n).map .agg
    | none => none
  | some false => cs[off]?
  | none => none

def evField (P : Program) (t : TypeId) (x : SV) (f : Nat) : Option SV :=
  match P.underlying t, x with
  | some (.struct fields), .agg cs =>
    match fields[f]? with
    | some fl => part P fl.type cs fl.offset
    | none => none
  | _, _ => none

/-- Each place that a symbolic index may name, and that it names none. -/
def forks (len : Nat) (x : X) (at_ : Nat → Option Rr) : Option Rs :=
  let rec go : Nat → Option Rs
    | 0 => some [([.not (.cmp .geq x (.lit 0))], .bad), ([.not (.cmp .lss x (.lit len))], .bad)]
    | i + 1 => match at_ i, go i with
      | some r, some rs => some (([.cmp .eql x (.lit i)], r) :: rs)
      | _, _ => none
  go len

def atIndex (len : Nat) (x : X) (at_ : Nat → Option Rr) : Option Rs :=
  match x with
  | .lit i => if 0 ≤ i ∧ i < len then (at_ i.toNat).map fun r => [([], r)] else some [([], .bad)]
  | x => if len ≤ 64 then forks len x at_ else none

def evIndexAddr (P : Program) (h : Hp) (t : TypeId) (x ix : SV) : Option Rs :=
  match P.underlying t, x, ix with
  | some (.array len elem), .ptr (some (b, o)), .int _ i =>
    match tySize P elem with
    | some size => atIndex len i fun j => some (.val (.ptr (some (b, o + j * size))) h)
    | none => none
  | some (.slice elem), .sl (some (b, o)) len _, .int _ i =>
    match tySize P elem with
    | some size => atIndex len i fun j => some (.val (.ptr (some (b, o + j * size))) h)
    | none => none
  | some (.slice _), .sl none _ _, .int _ _ => some [([], .bad)]
  | _, _, _ => none

def evIndex (P : Program) (h : Hp) (t : TypeId) (x ix : SV) : Option Rs :=
  match P.underlying t, x, ix with
  | some (.array len elem), .agg cs, .int _ i =>
    match tySize P elem with
    | some size => atIndex len i fun j => (part P elem cs (j * size)).map fun v => .val v h
    | none => none
  | some .string, .str (.sl l), .int _ i => atIndex l.length i fun j => (l[j]?).map fun c => .val (.int .u8 (.lit c.toNat)) h
  | _, _, _ => none

/-! ### equality -/

def eqAll (f : TypeId → SV → SV → Option X) : List (TypeId × SV × SV) → Option X
  | [] => some (.tt true)
  | (t, x, y) :: rest =>
    match f t x y, eqAll f rest with
    | some a, some b => some (mkIte a b (.tt false))
    | _, _ => none

def zipParts (P : Program) (xs ys : List SV) : List (TypeId × Nat) → Option (List (TypeId × SV × SV))
  | [] => some []
  | (t, off) :: rest =>
    match part P t xs off, part P t ys off, zipParts P xs ys rest with
    | some x, some y, some r => some ((t, x, y) :: r)
    | _, _, _ => none

def eqIn (P : Program) : Nat → TypeId → SV → SV → Option X
  | 0, _, _, _ => none
  | d + 1, t, x, y =>
    match P.underlying t, x, y with
    | some .bool, .bool a, .bool b => some (mkBeq a b)
    | some (.int _), .int k a, .int k' b => if k = k' then some (mkCmp .eql a b) else none
    | some .string, .str a, .str b => some (mkSeq a b)
    | some (.pointer _), .ptr none, .ptr b => some (.tt b.isNone)
    | some (.pointer _), .ptr _, .ptr none => some (.tt false)
    | some (.interface _), .nilIface, .nilIface => some (.tt true)
    | some (.interface _), .nilIface, .iface _ _ => some (.tt false)
    | some (.interface _), .iface _ _, .nilIface => some (.tt false)
    | some (.struct fields), .agg xs, .agg ys =>
      if P.stoodInHeld t then none else
      match zipParts P xs ys ((fields.toList.filter fun f => f.name ≠ "_").map fun f => (f.type, f.offset)) with
      | some l => eqAll (eqIn P d) l
      | none => none
    | some (.array len elem), .agg xs, .agg ys =>
      match tySize P elem with
      | some n => match zipParts P xs ys ((List.range len).map fun i => (elem, i * n)) with
        | some l => eqAll (eqIn P d) l
        | none => none
      | none => none
    | some (.slice _), .sl none _ _, .sl b _ _ => some (.tt b.isNone)
    | some (.slice _), .sl _ _ _, .sl none _ _ => some (.tt false)
    | some (.map _ _), .map none, .map b => some (.tt b.isNone)
    | some (.map _ _), .map _, .map none => some (.tt false)
    | some (.func _ _ _), .nilFunc, .nilFunc => some (.tt true)
    | some (.func _ _ _), .nilFunc, .func _ _ _ => some (.tt false)
    | some (.func _ _ _), .func _ _ _, .nilFunc => some (.tt false)
    | _, _, _ => none

/-- The guard at an equality of interface values or aggregates says nothing. -/
def eqFree (P : Program) (t : TypeId) (x y : Operand) (a b : SV) : Bool :=
  match a, b with
  | .nilIface, .nilIface => (x matches .const _) || (y matches .const _)
  | .agg _, .agg _ => !P.eqGuardType P.depth t
  | .bool _, .bool _ | .int _ _, .int _ _ | .str _, .str _ | .ptr _, .ptr _ | .sl _ _ _, .sl _ _ _ | .map _, .map _
  | .nilFunc, _ | _, .nilFunc | .nilIface, .iface _ _ | .iface _ _, .nilIface => true
  | _, _ => false

/-- Not compared as a number or a text. -/
def eqKind : SV → Bool
  | .int _ _ | .str _ | .bad | .opq _ | .tup _ => false
  | _ => true

def evBin (P : Program) (op : BinOp) (t : TypeId) (ox oy : Operand) (x y : SV) : Option (List (List X × Option SV)) :=
  match op, x, y with
  | .shl, .int k a, .int _ b | .shr, .int k a, .int _ b =>
    match b with
    | .lit n => if n < 0 then some [([], none)] else some [([], some (.int k (mkAr op k a b)))]
    | b => some [([.cmp .geq b (.lit 0)], some (.int k (mkAr op k a b))), ([.not (.cmp .geq b (.lit 0))], none)]
  | .quo, .int k a, .int k' b | .rem, .int k a, .int k' b =>
    if k = k' then
      match b with
      | .lit n => if n = 0 then some [([], none)] else some [([], some (.int k (mkAr op k a b)))]
      | b => some [([.not (.cmp .eql b (.lit 0))], some (.int k (mkAr op k a b))), ([.cmp .eql b (.lit 0)], none)]
    else none
  | .add, .int k a, .int k' b | .sub, .int k a, .int k' b | .mul, .int k a, .int k' b
  | .and, .int k a, .int k' b | .or, .int k a, .int k' b | .xor, .int k a, .int k' b | .andNot, .int k a, .int k' b =>
    if k = k' then some [([], some (.int k (mkAr op k a b)))] else none
  | .eql, .int k a, .int k' b | .neq, .int k a, .int k' b | .lss, .int k a, .int k' b | .leq, .int k a, .int k' b
  | .gtr, .int k a, .int k' b | .geq, .int k a, .int k' b =>
    if k = k' then some [([], some (.bool (mkCmp op a b)))] else none
  | .eql, .str a, .str b => some [([], some (.bool (mkSeq a b)))]
  | .neq, .str a, .str b => some [([], some (.bool (mkNot (mkSeq a b))))]
  | .add, .str (.sl a), .str (.sl b) => if a.length + b.length < 1000000 then some [([], some (.str (.sl (a ++ b))))] else none
  | .eql, x, y => if eqKind x && eqFree P t ox oy x y then (eqIn P 8 t x y).map fun c => [([], some (.bool c))] else none
  | .neq, x, y => if eqKind x && eqFree P t ox oy x y then (eqIn P 8 t x y).map fun c => [([], some (.bool (mkNot c)))] else none
  | _, _, _ => none

def evUn (op : UnOp) (x : SV) : Option SV :=
  match op, x with
  | .not, .bool b => some (.bool (mkNot b))
  | .neg, .int k a => some (.int k (mkAr .sub k (.lit 0) a))
  | .xor, .int k a => some (.int k (mkAr .xor k (.lit (if k.signed then -1 else k.max)) a))
  | _, _ => none

def bytesOf : List SV → Option (List UInt8)
  | [] => some []
  | .int .u8 (.lit n) :: rest => (bytesOf rest).map (UInt8.ofNat n.toNat :: ·)
  | _ :: _ => none

def evConv (P : Program) (h : Hp) (src dst : TypeId) (x : SV) : Option (SV × Hp) :=
  match P.underlying src, P.underlying dst, x with
  | some (.int _), some (.int k), .int _ a => some (.int k (mkCv k a), h)
  | some .string, some .string, .str a => some (.str a, h)
  | some .string, some (.slice e), .str (.sl l) =>
    match P.underlying e with
    | some (.int .u8) =>
      if l.length < 1000000 then
        some (.sl (some (h.nx, 0)) l.length (.unk h.nk),
          { (h.new (.cells (l.map fun c => .int .u8 (.lit c.toNat)) e (some (h.nk, 1)) (0, 0))) with nk := h.nk + 1 })
      else none
    | _ => none
  | some (.slice e), some .string, .sl none _ _ =>
    match P.underlying e with
    | some (.int .u8) => some (.str (.sl []), h)
    | _ => none
  | some (.slice e), some .string, .sl (some (b, o)) n _ =>
    match P.underlying e, objCells h b with
    | some (.int .u8), some (cs, _, _, _) => match cut cs o n with
      | some s => (bytesOf s).map fun l => (.str (.sl l), h)
      | none => none
    | _, _ => none
  | _, _, _ => none

/-! ### slices -/

def litN : Option SV → Option (Option Nat)
  | none => some none
  | some (.int _ (.lit n)) => if 0 ≤ n then some (some n.toNat) else none
  | _ => none

def capN : CX → Option Nat
  | .exact n => some n
  | .unk _ => none

def evSlice (P : Program) (t : TypeId) (x : SV) (lo hi mx : Option SV) : Option SV :=
  match litN lo, litN hi, litN mx with
  | some l?, some h?, some m? =>
    let l := l?.getD 0
    match P.underlying t, x with
    | some .string, .str (.sl s) =>
      let h := h?.getD s.length
      if m?.isNone && decide (l ≤ h) && decide (h ≤ s.length) then some (.str (.sl ((s.drop l).take (h - l)))) else none
    | some (.slice elem), .sl a len cap =>
      let h := h?.getD len
      match tySize P elem, capN cap with
      | some size, some c =>
        let m := m?.getD c
        if decide (l ≤ h) && decide (h ≤ m) && decide (m ≤ c) && (m?.isNone || h?.isSome) then
          some (.sl (if m = l then a else a.map fun p => (p.1, p.2 + l * size)) (h - l) (.exact (m - l)))
        else none
      | some size, none =>
        -- the capacity is not known: a whole slice, or a head of it
        if l = 0 && decide (h ≤ len) && m?.isNone then some (.sl a h cap) else if size = 0 then none else none
      | _, _ => none
    | some (.array n elem), .ptr (some (b, o)) =>
      let h := h?.getD n
      match tySize P elem with
      | some size =>
        let m := m?.getD n
        if decide (l ≤ h) && decide (h ≤ m) && decide (m ≤ n) && (m?.isNone || h?.isSome) then
          some (.sl (some (if m = l then (b, o) else (b, o + l * size))) (h - l) (.exact (m - l)))
        else none
      | none => none
    | _, _ => none
  | _, _, _ => none

def evMakeSlice (P : Program) (h : Hp) (t : TypeId) (l c : SV) : Option (SV × Hp) :=
  match P.underlying t, l, c with
  | some (.slice elem), .int _ (.lit l), .int _ (.lit c) =>
    match tySize P elem, tyZero P elem, tyBytes P elem with
    | some size, some z, some bytes =>
      if z.told && z.cells.length == size && decide (0 < size) && decide (0 ≤ l) && decide (l ≤ c) && decide (c ≤ 1000000) && decide (bytes ≤ 1000000) then
        some (.sl (some (h.nx, 0)) l.toNat (.exact c.toNat), h.new (.cells (rep z.cells c.toNat) elem none (0, 0)))
      else none
    | _, _, _ => none
  | _, _, _ => none

/-- The cells of what is appended or copied: its first n elements. -/
def srcCells (h : Hp) (size n : Nat) (x : SV) : Option (List SV) :=
  match x with
  | .sl none _ _ => some []
  | .sl (some (b, o)) _ _ =>
    match objCells h b with
    | some (cs, _, _, _) => cut cs o (n * size)
    | none => none
  | .str (.sl l) => some ((l.take n).map fun c => .int .u8 (.lit c.toNat))
  | _ => none

def srcLen (x : SV) : Option Nat :=
  match x with
  | .sl _ n _ => some n
  | .str (.sl l) => some l.length
  | _ => none

def evAppend (P : Program) (h : Hp) (sType xType : TypeId) (s x : SV) : Option (SV × Hp) :=
  match P.underlying sType, P.underlying xType, s, srcLen x with
  | _, some (.int _), _, _ => none
  | some (.slice elem), some _, .sl base len cap, some n =>
    match tySize P elem, tyZero P elem, tyBytes P elem, srcCells h ((tySize P elem).getD 0) n x with
    | some size, some z, some bytes, some new =>
      if !(z.told && z.cells.length == size && decide (0 < size) && decide (new.length = n * size) && storable new && decide (bytes ≤ 1000000) && decide (0 < bytes) && decide (len + n ≤ 1000000)) then none else
      match base, cap with
      | none, .exact 0 =>
        if n = 0 then (if len = 0 then some (.sl none 0 (.exact 0), h) else none)
        else if len = 0 then some (.sl (some (h.nx, 0)) n (.unk h.nk), { (h.new (.cells new elem (some (h.nk, size)) (0, 0))) with nk := h.nk + 1 }) else none
      | some (b, o), .exact c =>
        match objCells h b with
        | some (cs, el, sl, fz) =>
          if len + n ≤ c then
            if fz == (0, 0) then (splice cs (o + len * size) new).map fun cs' => (.sl base (len + n) cap, h.put b (.cells cs' el sl fz)) else none
          else match cut cs o (len * size) with
            | some old => some (.sl (some (h.nx, 0)) (len + n) (.unk h.nk), { (h.new (.cells (old ++ new) elem (some (h.nk, size)) (0, 0))) with nk := h.nk + 1 })
            | none => none
        | none => none
      | some (b, 0), .unk j =>
        match objCells h b with
        | some (cs, el, some (j', sz), fz) =>
          -- the block is the slice's own: what is known of it are the slice's elements
          if j = j' && sz = size && el = elem && decide (cs.length = len * size) && fz == (0, 0) then
            (if n = 0 then some (s, h) else
            some (.sl (some (h.nx, 0)) (len + n) (.unk h.nk), { ((h.drop b).new (.cells (cs ++ new) elem (some (h.nk, size)) (0, 0))) with nk := h.nk + 1 }))
          else none
        | _ => none
      | _, _ => none
    | _, _, _, _ => none
  | _, _, _, _ => none

def evCopy (P : Program) (h : Hp) (dType : TypeId) (d x : SV) : Option (SV × Hp) :=
  match P.underlying dType, d, srcLen x with
  | some (.slice elem), .sl base dl _, some n =>
    match tySize P elem with
    | some size =>
      let k := Nat.min n dl
      match srcCells h size k x with
      | some cs =>
        if !(decide (cs.length = k * size) && storable cs) then none else
        match base with
        | some (b, o) => match objCells h b with
          | some (cs0, el, sl, fz) => if fz == (0, 0) then (splice cs0 o cs).map fun cs' => (.int .i64 (.lit k), h.put b (.cells cs' el sl fz)) else none
          | none => none
        | none => if k = 0 then some (.int .i64 (.lit 0), h) else none
      | none => none
    | none => none
  | _, _, _ => none

def evLen (P : Program) (h : Hp) (t : TypeId) (x : SV) : Option SV :=
  match P.underlying t, x with
  | some .string, .str s => some (.int .i64 (mkLen s))
  | some (.array n _), _ => some (.int .i64 (.lit n))
  | some (.slice _), .sl _ n _ => some (.int .i64 (.lit n))
  | some (.map _ _), .map none => some (.int .i64 (.lit 0))
  | some (.map _ _), .map (some r) => match h.t.get r with
    | some (.map es _) => some (.int .i64 (.lit es.length))
    | _ => none
  | _, _ => none

/-! ### maps -/

/-- A key that needs no look at its type's values: integers, strings, bools, structs of these. -/
def keyFine (P : Program) : Nat → TypeId → Bool
  | 0, _ => false
  | d + 1, t =>
    match P.underlying t with
    | some (.int _) | some .string | some .bool => true
    | some (.struct fields) => !P.stoodInHeld t && fields.toList.all fun f => f.name ≠ "_" && keyFine P d f.type && (tyAgg P f.type == some false)
    | _ => false

/-- Where a key is found: a way for each entry that it may be, and the way on which it is none of them. -/
def findEnt (P : Program) (kt : TypeId) (k : SV) : List (SV × SV × Nat) → Nat → Option (List (List X × Option (Nat × SV)))
  | [], _ => some [([], none)]
  | (key, v, _) :: rest, i =>
    match eqIn P 8 kt k key with
    | some (.tt true) => some [([], some (i, v))]
    | some (.tt false) => findEnt P kt k rest (i + 1)
    | some c => match findEnt P kt k rest (i + 1) with
      | some l => some (([c], some (i, v)) :: l.map fun (cs, r) => (.not c :: cs, r))
      | none => none
    | none => none

def keyTold (P : Program) (kt : TypeId) (v : SV) : Bool :=
  match P.underlying kt with
  | some (.struct fields) => match v with
    | .agg cs => fields.toList.all fun f => (part P f.type cs f.offset).isSome
    | _ => false
  | _ => match v with
    | .int _ _ | .str _ | .bool _ => true
    | _ => false

def evLookup (P : Program) (h : Hp) (t : TypeId) (x k : SV) (commaOk : Bool) : Option Rs :=
  match P.underlying t with
  | some (.map kt et) =>
    if !(keyFine P 4 kt && keyTold P kt k) then none else
    let es? : Option (List (SV × SV × Nat)) := match x with
      | .map none => some []
      | .map (some r) => match h.t.get r with
        | some (.map es _) => some es
        | _ => none
      | _ => none
    match es?, tyZero P et with
    | some es, some z =>
      match findEnt P kt k es 0 with
      | some l => some (l.map fun (cs, r) => match r with
        | some (_, v) => (cs, .val (if commaOk then .tup [v, .bool (.tt true)] else v) h)
        | none => (cs, .val (if commaOk then .tup [z, .bool (.tt false)] else z) h))
      | none => none
    | _, _ => none
  | _ => none

def setEnt (l : List (SV × SV × Nat)) (i : Nat) (k v : SV) : List (SV × SV × Nat) :=
  l.modify i fun e => (k, v, e.2.2)

def plainSame : SV → SV → Bool
  | .int k x, .int k' y => k == k' && x == y
  | .str x, .str y => x == y
  | _, _ => false

def evMapUpdate (P : Program) (h : Hp) (t : TypeId) (m k v : SV) : Option Rs :=
  match P.underlying t, m with
  | some (.map kt _), .map (some r) =>
    if !(keyFine P 4 kt && keyTold P kt k) then none else
    match h.t.get r with
    | some (.map es clock) =>
      match findEnt P kt k es 0 with
      | some [([], none)] => some [([], .val (.tup []) (h.put r (.map (es ++ [(k, v, clock)]) (clock + 1))))]
      | some [([], some (i, _))] => match es[i]? with
        | some (k0, _, _) => if plainSame k0 k then some [([], .val (.tup []) (h.put r (.map (setEnt es i k v) clock)))] else none
        | none => none
      | _ => none
    | _ => none
  | _, _ => none

/-! ### calls -/

def asFunc (v : SV) : Option (FuncId × List SV × List SV) :=
  match v with
  | .func (.func f) first cap => some (f, first, cap)
  | _ => none

def evBuiltin (P : Program) (h : Hp) (b : Builtin) (argTypes : List TypeId) (args : List SV) : Option (SV × Hp) :=
  match b, argTypes, args with
  | .len, t :: _, x :: _ => (evLen P h t x).map fun v => (v, h)
  | .cap, t :: _, .sl _ _ (.exact c) :: _ => match P.underlying t with
    | some (.slice _) => some (.int .i64 (.lit c), h)
    | _ => none
  | .append, [t, u], [s, x] => evAppend P h t u s x
  | .copy, t :: _, [d, x] => evCopy P h t d x
  | .min, _, [.int k a, .int _ b] => some (.int k (mkMn a b), h)
  | .max, _, [.int k a, .int _ b] => some (.int k (mkMx a b), h)
  | .min, _, [.int k a, .int _ b, .int _ c] => some (.int k (mkMn (mkMn a b) c), h)
  | .max, _, [.int k a, .int _ b, .int _ c] => some (.int k (mkMx (mkMx a b) c), h)
  | _, _, _ => none

def hasBody (P : Program) (f : FuncId) : Bool :=
  match P.funcs[f]? with
  | some fn => fn.body.isSome && (fn.name == "runtime.NumGoroutine") == false
  | none => false

def evCall (P : Program) (h : Hp) (e : Operand → SV) (c : Call) : Option Rs :=
  match c.callee with
  | .builtin b => match evBuiltin P h b c.argTypes.toList (c.args.toList.map e) with
    | some (v, h') => one v h'
    | none => none
  | .value f => match asFunc (e f) with
    | some (f, first, cap) => if hasBody P f then some [([], .enter f (first ++ c.args.toList.map e ++ cap))] else none
    | none => match e f with
      | .nilFunc => some [([], .bad)]
      | _ => none
  | .invoke _ _ => none

def lift1 (h : Hp) (v : Option SV) : Option Rs := v.map fun v => [([], .val v h)]
def lift2 (r : Option (SV × Hp)) : Option Rs := r.map fun r => [([], .val r.1 r.2)]

def evOp (P : Program) (h : Hp) (e : Operand → SV) (o : Op) : Option Rs :=
  match o with
  | .move x | .assign x => one (e x) h
  | .pick c a b => match e c with
    | .bool x => match x with
      | .tt t => one (if t then e a else e b) h
      | x => some [([x], .val (e a) h), ([.not x], .val (e b) h)]
    | _ => none
  | .alloc t => match tyZero P t with
    | some z => if z.told then one (.ptr (some (h.nx, 0))) (h.new (.cells z.cells t none (0, 0))) else none
    | none => none
  | .box t x => if (e x).told then one (.ptr (some (h.nx, 0))) (h.new (.cells (e x).cells t none (0, 0))) else none
  | .build t parts => lift1 h (evBuild P t (parts.toList.map fun p => (p.1, e p.2)))
  | .buildSlice t len parts => lift2 (evBuildSlice P h t len (parts.toList.map fun p => (p.1, e p.2)))
  | .load t a => lift1 h (evLoad P h t (e a))
  | .store t a x => (evStore P h t (e a) (e x)).map fun h' => [([], .val (.tup []) h')]
  | .nilCheck x => match e x with
    | .ptr none => some [([], .bad)]
    | .ptr (some p) => one (.ptr (some p)) h
    | .sl a n c => one (.sl a n c) h
    | _ => none
  | .binOp op t x y _ => (evBin P op t x y (e x) (e y)).map fun l => l.map fun (cs, r) => match r with
    | some v => (cs, .val v h)
    | none => (cs, .bad)
  | .unOp op _ x => lift1 h (evUn op (e x))
  | .convert s d x => lift2 (evConv P h s d (e x))
  | .makeInterface t x => match P.underlying t with
    | some (.interface _) => none
    | some _ => one (.iface t (e x)) h
    | none => none
  | .makeFunc fn first cap => one (.func fn (first.toList.map e) (cap.toList.map e)) h
  | .makeMap _ none => one (.map (some h.nx)) (h.new (.map [] 0))
  | .makeSlice t l c => lift2 (evMakeSlice P h t (e l) (e c))
  | .slice t x lo hi mx => lift1 h (evSlice P t (e x) (lo.map e) (hi.map e) (mx.map e))
  | .fieldAddr s x f => lift1 h (evFieldAddr P s (e x) f)
  | .field t x f => lift1 h (evField P t (e x) f)
  | .indexAddr t x i => evIndexAddr P h t (e x) (e i)
  | .index t x i => evIndex P h t (e x) (e i)
  | .lookup t x k ok => evLookup P h t (e x) (e k) ok
  | .mapUpdate t m k x | .insert t m k x => evMapUpdate P h t (e m) (e k) (e x)
  | .extract t i => match e t with
    | .tup vs => lift1 h vs[i]?
    | _ => none
  | .call c => evCall P h e c
  | .panic _ => some [([], .bad)]
  | _ => none

/-! ## code -/

inductive OK
  | normal
  | exit (n : Nat)
  | ret
  | bad
  deriving DecidableEq, Repr, Inhabited

abbrev Outs := List (OK × St)

def St.put (s : St) (d : Option Tmp) (v : SV) : St :=
  match d with
  | some d => match Nat.ble (Nat.succ d) s.nt with
    | true => { s with tm := s.tm.put d v }
    | false => s
  | none => s

def St.assume (s : St) (cs : List X) : St := s.un fun tm nt hp pc => ⟨tm, nt, hp, cs ++ pc⟩

/-- Is the operation wanted? `none`: not told; a condition: it hangs on it. -/
inductive Want
  | yes | no | iff (c : X) | dunno

def wantSV (ops : Array Oper) (tm : Tm) (o : Oper) : Want :=
  match o.guard with
  | none => .yes
  | some (j, w) =>
    match (ops[j]?).bind (·.dst) with
    | none => .no
    | some d =>
      match slot tm d with
      | .bool (.tt b) => if b = w then .yes else .no
      | .bool c => .iff (if w then c else .not c)
      | .tup _ => .no
      | .int _ _ => .no
      | _ => .dunno

def bindO {α β : Type} (l : Option (List α)) (f : α → Option (List β)) : Option (List β) :=
  match l with
  | none => none
  | some l => l.foldr (fun a acc => match f a, acc with
    | some x, some y => some (x ++ y)
    | _, _ => none) (some [])

/-- Each way of a branch: is its condition known? -/
def ways (pc : List X) (cs : List X) : Option (List X) :=
  match cs with
  | [] => some []
  | c :: rest => match known pc c with
    | some true => ways pc rest
    | some false => none
    | none => (ways pc rest).map (c :: ·)

abbrev Caller := FuncId → List SV → Hp → List X → Option (List (Option SV × Hp × List X))   -- no value: a bad end

def putK {α : Type} (s : St) (d : Option Tmp) (v : SV) (k : St → α) : α :=
  match d with
  | none => k s
  | some d => match Nat.ble (Nat.succ d) s.nt with
    | true => fcV v fun v => s.un fun tm nt hp pc => Tm.putK v tm d fun tm => k ⟨tm, nt, hp, pc⟩
    | false => k s
theorem putK_eq {α : Type} (s : St) (d : Option Tmp) (v : SV) (k : St → α) : putK s d v k = k (s.put d v) := by
  cases d with
  | none => rfl
  | some d =>
    simp only [putK, St.put, fcV_eq, Tm.putK_eq, St.un_eq]
    split <;> rfl

def retSt (s : St) (d : Option Tmp) (r : Option SV × Hp × List X) : OK × St := match r with
  | (v, h, pc) => match v with
    | some v => putK ({ tm := s.tm, nt := s.nt, hp := h, pc := pc } : St) d v fun s => (.normal, s)
    | none => (.bad, { tm := s.tm, nt := s.nt, hp := h, pc := pc })

def evRr1 (q : Bool) (call : Caller) (s : St) (d : Option Tmp) (r : Rr) : Option Outs :=
  match r with
  | .val v h => putK s d (v.red s.pc) fun s => s.un fun tm nt _ pc => (if q then some [(.normal, (⟨tm, nt, h, pc⟩ : St))] else fcH h fun h => some [(.normal, (⟨tm, nt, h, pc⟩ : St))])
  | .bad => some [(.bad, s)]
  | .enter f args => match call f args s.hp s.pc with
    | none => none
    | some l => some (l.map (retSt s d))

def evRr (q : Bool) (call : Caller) (s : St) (d : Option Tmp) : List X × Rr → Option Outs
  | (cs, r) => match ways s.pc cs with
    | none => some []
    | some cs => s.un fun tm nt hp pc => appK cs pc fun pc => evRr1 q call ⟨tm, nt, hp, pc⟩ d r

def quietO : Op → Bool
  | .move _ | .assign _ | .pick .. | .build .. | .load .. | .nilCheck _ | .binOp .. | .unOp .. | .makeFunc .. | .slice .. | .fieldAddr .. | .field .. | .indexAddr .. | .index ..
  | .lookup .. | .extract .. | .makeInterface .. => true
  | _ => false

/-- Operations that are met by a fact about the world that stays. -/
abbrev Ora := Op → (Operand → SV) → Option SV

def evOpO (P : Program) (ora : Ora) (h : Hp) (e : Operand → SV) (op : Op) : Option Rs :=
  match ora op e with
  | some v => some [([], .val v h)]
  | none => evOp P h e op

def evOper (P : Program) (gl : Nat → Option Nat) (ora : Ora) (call : Caller) (o : Oper) (s : St) : Option Outs :=
  bindO (evOpO P ora s.hp (evOperand gl s.tm) o.op) (evRr (quietO o.op) call s o.dst)

theorem retSt_eq (s : St) (d : Option Tmp) (r : Option SV × Hp × List X) : retSt s d r = match r with
    | (v, h, pc) => match v with
      | some v => (.normal, { s with hp := h, pc := pc }.put d v)
      | none => (.bad, { s with hp := h, pc := pc }) := by
  obtain ⟨v, h, pc⟩ := r
  cases v with
  | none => rfl
  | some v => simp only [retSt, putK_eq]
theorem evRr_eq (q : Bool) (call : Caller) (s : St) (d : Option Tmp) (cs : List X) (r : Rr) : evRr q call s d (cs, r) = match ways s.pc cs with
    | none => some []
    | some cs => appK cs s.pc fun pc =>
      let s : St := { s with pc := pc }
      match r with
      | .val v h => putK s d (v.red s.pc) fun s => (if q then some [(.normal, ({ s with hp := h } : St))] else fcH h fun h => some [(.normal, ({ s with hp := h } : St))])
      | .bad => some [(.bad, s)]
      | .enter f args => match call f args s.hp s.pc with
        | none => none
        | some l => some (l.map fun (v, h, pc) => match v with
          | some v => (.normal, { s with hp := h, pc := pc }.put d v)
          | none => (.bad, { s with hp := h, pc := pc })) := by
  unfold evRr
  dsimp only
  cases ways s.pc cs with
  | none => rfl
  | some cs =>
    simp only [St.un_eq]
    congr 1
    funext pc
    cases r with
    | val v h => rfl
    | bad => rfl
    | enter f args =>
      simp only [evRr1]
      cases call f args s.hp pc with
      | none => rfl
      | some l =>
        refine congrArg some (List.map_congr_left fun r _ => ?_)
        rw [retSt_eq]

def evOps (P : Program) (gl : Nat → Option Nat) (ora : Ora) (call : Caller) (ops : Array Oper) : List Oper → St → Option Outs
  | [], s => some [(.normal, s)]
  | o :: rest, s =>
    let go (s : St) : Option Outs := bindO (evOper P gl ora call o s) fun (k, s') => match k with
      | .normal => evOps P gl ora call ops rest s'
      | k => some [(k, s')]
    match wantSV ops s.tm o with
    | .yes => go s
    | .no => putK s o.dst (.tup []) (evOps P gl ora call ops rest)
    | .iff c => match known s.pc c with
      | some true => go s
      | some false => putK s o.dst (.tup []) (evOps P gl ora call ops rest)
      | none => match go (s.assume [c]), evOps P gl ora call ops rest ((s.assume [.not c]).put o.dst (.tup [])) with
        | some a, some b => some (a ++ b)
        | _, _ => none
    | .dunno => none

end Go.Sy
