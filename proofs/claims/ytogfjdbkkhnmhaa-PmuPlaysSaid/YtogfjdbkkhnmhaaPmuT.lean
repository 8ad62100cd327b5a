/- The sets of a base and a mask: what both functions hand back. -/
import Derived.Test.YtogfjdbkkhnmhaaPmuS
import Derived.Test.YtogfjdbkkhnmhaaK11
namespace Go.Sy.Pm
open Go.Proofs

/-! ## the set, plainly -/

def bitA (mask k : Nat) : Bool := mask / 2 ^ k % 2 == 1
def okA (base k : Nat) : Prop := base < 6 ∧ base + k < 6
def SA (base mask k : Nat) : List Nat := ((List.range k).filter (bitA mask)).map (base + ·)
def GoodA (base mask k : Nat) : Prop := ∀ j, j < k → bitA mask j = true → okA base j

theorem SA_succ0 {base mask k : Nat} (h : bitA mask k = false) : SA base mask (k + 1) = SA base mask k := by
  unfold SA; rw [List.range_succ, List.filter_append]; simp [h]
theorem SA_succ1 {base mask k : Nat} (h : bitA mask k = true) : SA base mask (k + 1) = SA base mask k ++ [base + k] := by
  unfold SA; rw [List.range_succ, List.filter_append]; simp [h]
theorem GoodA_succ0 {base mask k : Nat} (hg : GoodA base mask k) (h : bitA mask k = false) : GoodA base mask (k + 1) := by
  intro j hj hb
  by_cases e : j = k
  · subst e; rw [h] at hb; cases hb
  · exact hg j (by omega) hb
theorem GoodA_succ1 {base mask k : Nat} (hg : GoodA base mask k) (h : okA base k) : GoodA base mask (k + 1) := by
  intro j hj hb
  by_cases e : j = k
  · subst e; exact h
  · exact hg j (by omega) hb
theorem bitA_zero {mask k : Nat} (h : mask / 2 ^ k = 0) (j : Nat) (hj : k ≤ j) : bitA mask j = false := by
  unfold bitA
  have : mask / 2 ^ j = 0 := by
    rw [Nat.div_eq_zero_iff] at h ⊢
    rcases h with h | h
    · exact absurd h (Nat.pos_iff_ne_zero.1 (Nat.two_pow_pos k))
    · exact .inr (Nat.lt_of_lt_of_le h (Nat.pow_le_pow_right (by decide) hj))
  rw [this]; rfl
theorem SA_more {base mask k : Nat} (h : mask / 2 ^ k = 0) : ∀ d, SA base mask (k + d) = SA base mask k
  | 0 => rfl
  | d + 1 => by rw [← Nat.add_assoc, SA_succ0 (bitA_zero h _ (by omega)), SA_more h d]
theorem GoodA_more {base mask k : Nat} (hg : GoodA base mask k) (h : mask / 2 ^ k = 0) (n : Nat) : GoodA base mask n := by
  intro j hj hb
  by_cases e : j < k
  · exact hg j e hb
  · rw [bitA_zero h j (by omega)] at hb; cases hb

theorem and1_nat (n : Nat) (hn : n < 18446744073709551616) : arD .and .u64 n 1 = (n % 2 : Nat) := by
  rw [show (1 : Int) = ((1 : Nat) : Int) from rfl, and_nat n 1 hn (by decide)]
  congr 1
  simp

/-- The values at a round's head. -/
structure AtK (σ : Vl) (base cur k n : Nat) (L : List Nat) : Prop where
  h0 : σ.i 0 = base
  h1 : σ.i 1 = cur
  h2 : σ.i 2 = k
  hn : n = L.length
  he : ∀ (j x : Nat), L[j]? = some x → σ.i (10 + j) = x

def rdX (x1 x2 : X) (n : Nat) (xn : X) (s : St) : Sb :=
  let la := listAt s
  { i := fun j => match j with
      | 0 => .var 0
      | 1 => x1
      | 2 => x2
      | j => if j = 10 + n then xn else .var j
    b := .bvar, s := .svar, v := fun j => j
    π := match la.1 with | some i => [i] | none => []
    κ := match la.2 with | some (.unk j) => [.unk j] | _ => [] }

theorem rdX_i (x1 x2 : X) (n : Nat) (xn : X) (s : St) : ∀ k, 3 ≤ k → (rdX x1 x2 n xn s).i k = if k = 10 + n then xn else .var k
  | _ + 3, _ => rfl
theorem AtK.stay {σ : Vl} {base cur k n : Nat} {L : List Nat} (H : AtK σ base cur k n L) {x1 x2 : X} {cur' k' : Nat} (e1 : x1.I σ = cur') (e2 : x2.I σ = k') (s : St) : AtK (σ.sub (rdX x1 x2 n (.var (10 + n)) s)) base cur' k' n L where
  h0 := H.h0
  h1 := e1
  h2 := e2
  hn := H.hn
  he := fun j x hj => by
    show ((rdX x1 x2 n (.var (10 + n)) s).i (10 + j)).I σ = x
    rw [rdX_i _ _ _ _ _ _ (by omega)]
    split
    · rename_i e; rw [← e]; exact H.he j x hj
    · exact H.he j x hj
theorem AtK.more {σ : Vl} {base cur k n : Nat} {L : List Nat} (H : AtK σ base cur k n L) {x1 x2 xn : X} {cur' k' y : Nat} (e1 : x1.I σ = cur') (e2 : x2.I σ = k') (e3 : xn.I σ = y) (s : St) : AtK (σ.sub (rdX x1 x2 n xn s)) base cur' k' (n + 1) (L ++ [y]) where
  h0 := H.h0
  h1 := e1
  h2 := e2
  hn := by simp [H.hn]
  he := fun j x hj => by
    show ((rdX x1 x2 n xn s).i (10 + j)).I σ = x
    rw [rdX_i _ _ _ _ _ _ (by omega)]
    by_cases e : j = n
    · subst e
      rw [if_pos rfl, e3]
      rw [H.hn] at hj
      simp at hj; rw [hj]
    · rw [if_neg (by omega)]
      refine H.he j x ?_
      have hl : j < (L ++ [y]).length := (List.getElem?_eq_some_iff.1 hj).1
      simp only [List.length_append, List.length_singleton] at hl
      have : j < L.length := by rw [H.hn] at e; omega
      rwa [List.getElem?_append_left this] at hj

def lst0 (z : SV) (n : Nat) : SV := match n with
  | 0 => z
  | n => lst n

/-! ## S -/

noncomputable def tlS : Code := rgt (rgt (rgt (bodyOf PP 14)))
noncomputable def xS : Code := lft (rgt (rgt (bodyOf PP 14)))
theorem splitS : bodyOf PP 14 = rseq [lft (bodyOf PP 14), lft (rgt (bodyOf PP 14))] (.seq (.seq (lft xS) (.block 0 (.loop (loopS PP 14)))) tlS) := by kernel_rfl
noncomputable def fnS : Func := (PP.funcs[14]?).getD default
theorem funS : PP.funcs[14]? = some fnS := by kernel_rfl
theorem fbodyS : fnS.body = some (bodyOf PP 14) := by kernel_rfl
theorem ntmS : fnS.ntmps = 32 := by kernel_rfl

noncomputable def ktS : Kit (cfgS PP) := kit (cfgS PP) (fun _ => true) fun _ _ _ => rfl

def inS : Pat := { tm := [(0, .int .u64 (.var 0)), (1, .int .u64 (.var 1))], nt := 32, os := [], pc := [] }
def preS : Pat := { pS 0 with tm := [(0, .int .u64 (.var 0)), (1, .int .u64 (.var 1)), (6, .sl none 0 (.exact 0))] }
def endS (n : Nat) : Pat := { pS n with tm := [(4, lst0 (.sl none 0 (.exact 0)) n), (5, .bool (.tt true))] }
def bit0S : X := .cmp .eql (.ar .and .u64 (.var 1) (.lit 1)) (.lit 0)
def tAS (n : Nat) : Tg := { k := .exit 0, p := pS n, rd := rdX (.var 1) (.var 2) n (.var (10 + n)), at_ := [.not (.not (.cmp .eql (.var 1) (.lit 0)))], nk := nkS n }
def tB1S : Tg := { k := .ret, p := pR 32, rd := rdN, at_ := [.not bit0S, .not (.cmp .lss (.var 2) (.ar .sub .u64 (.lit 6) (.var 0))), .not (.not (.cmp .lss (.var 0) (.lit 6)))] }
def tB2S : Tg := { k := .ret, p := pR 32, rd := rdN, at_ := [.not bit0S, .not (.not (.not (.cmp .lss (.var 0) (.lit 6))))] }
def tCS (n : Nat) : Tg := { k := .normal, p := pS n, rd := rdX (.ar .shr .u64 (.var 1) (.lit 1)) (.ar .add .u64 (.var 2) (.lit 1)) n (.var (10 + n)), at_ := [bit0S, .not (.cmp .eql (.var 1) (.lit 0))], nk := nkS n }
def tDS (n : Nat) : Tg := { k := .normal, p := pS (n + 1), rd := rdX (.ar .shr .u64 (.var 1) (.lit 1)) (.ar .add .u64 (.var 2) (.lit 1)) n (.ar .add .u64 (.var 0) (.var 2)), at_ := [.not bit0S, .not (.not (.cmp .lss (.var 2) (.ar .sub .u64 (.lit 6) (.var 0)))), .not (.not (.cmp .lss (.var 0) (.lit 6))), .not (.cmp .eql (.var 1) (.lit 0))], nk := nkS (n + 1) }
noncomputable def stS (n : Nat) : St := { (pS n).stN (nkS n) with pc := [] }
noncomputable def roundS (n : Nat) : Bool := okK ((comp (cfgS PP) ktS (loopS PP 14)).v (lev (cfgS PP) ktS 60) (stS n) (landK [] [tAS n, tB1S, tB2S, tCS n, tDS n]))
theorem roundsS : ∀ n, n ≤ 6 → roundS n = true
  | 0, _ => by kernel_rfl
  | 1, _ => by kernel_rfl
  | 2, _ => by kernel_rfl
  | 3, _ => by kernel_rfl
  | 4, _ => by kernel_rfl
  | 5, _ => by kernel_rfl
  | 6, _ => by kernel_rfl
  | n + 7, h => absurd h (by omega)
theorem preS_ok : okK (runL ktS (lev (cfgS PP) ktS 60) [lft (bodyOf PP 14), lft (rgt (bodyOf PP 14))] (inS.stN 0) (landK [] [{ k := .normal, p := preS, rd := rdX (.var 1) (.var 2) 0 (.var 10), at_ := [] }])) = true := by kernel_rfl
theorem zeroS_ok : okK ((comp (cfgS PP) ktS (lft xS)).v (lev (cfgS PP) ktS 60) (preS.stN 0) (landK [] [{ k := .normal, p := pS 0, rd := rdX (.var 1) (.lit 0) 0 (.var 10), at_ := [] }])) = true := by kernel_rfl
noncomputable def tailS (n : Nat) : Bool := okK ((comp (cfgS PP) ktS tlS).v (lev (cfgS PP) ktS 60) ((pS n).stN (nkS n)) (landK [] [{ k := .ret, p := endS n, rd := rdX (.var 1) (.var 2) n (.var (10 + n)), at_ := [], nk := nkS n }]))
theorem tailsS : ∀ n, n ≤ 6 → tailS n = true
  | 0, _ => by kernel_rfl
  | 1, _ => by kernel_rfl
  | 2, _ => by kernel_rfl
  | 3, _ => by kernel_rfl
  | 4, _ => by kernel_rfl
  | 5, _ => by kernel_rfl
  | 6, _ => by kernel_rfl
  | n + 7, h => absurd h (by omega)
theorem resRS : evResults PP fnS ((pR 32).stN 0) = some (.tup [.sl none 0 (.exact 0), .bool (.tt false)]) := by kernel_rfl
theorem resES : ∀ n, n ≤ 6 → evResults PP fnS ((endS n).stN (nkS n)) = some (.tup [lst0 (.sl none 0 (.exact 0)) n, .bool (.tt true)])
  | 0, _ => by kernel_rfl
  | 1, _ => by kernel_rfl
  | 2, _ => by kernel_rfl
  | 3, _ => by kernel_rfl
  | 4, _ => by kernel_rfl
  | 5, _ => by kernel_rfl
  | 6, _ => by kernel_rfl
  | n + 7, h => absurd h (by omega)

/-! ## T -/

noncomputable def tlT : Code := rgt (rgt (rgt (bodyOf PP 27)))
noncomputable def xT : Code := lft (rgt (rgt (bodyOf PP 27)))
theorem splitT : bodyOf PP 27 = rseq [lft (bodyOf PP 27), lft (rgt (bodyOf PP 27))] (.seq (.seq (lft xT) (.block 0 (.loop (loopS PP 27)))) tlT) := by kernel_rfl
noncomputable def fnT : Func := (PP.funcs[27]?).getD default
theorem funT : PP.funcs[27]? = some fnT := by kernel_rfl
theorem fbodyT : fnT.body = some (bodyOf PP 27) := by kernel_rfl
theorem ntmT : fnT.ntmps = 35 := by kernel_rfl

noncomputable def ktT : Kit (cfgS PP) := kit (cfgS PP) (fun _ => true) fun _ _ _ => rfl

def inT : Pat := { tm := [(0, .int .u64 (.var 0)), (1, .int .u64 (.var 1))], nt := 35, os := [], pc := [] }
def preT : Pat := { pT 0 with tm := [(0, .int .u64 (.var 0)), (1, .int .u64 (.var 1)), (6, .sl (some (0, 0)) 0 (.exact 0))] }
def endT (n : Nat) : Pat := { pT n with tm := [(4, lst0 (.sl (some (0, 0)) 0 (.exact 0)) n), (5, .bool (.tt true))] }
def bit0T : X := .cmp .eql (.ar .and .u64 (.ar .shr .u64 (.var 1) (.var 2)) (.lit 1)) (.lit 0)
def tAT (n : Nat) : Tg := { k := .exit 0, p := pT n, rd := rdX (.var 1) (.var 2) n (.var (10 + n)), at_ := [.not (.cmp .lss (.var 2) (.lit 64))], nk := nkS n }
def tB1T : Tg := { k := .ret, p := pR 35, rd := rdN, at_ := [.not bit0T, .not (.cmp .lss (.ar .add .u64 (.var 0) (.cv .u64 (.var 2))) (.lit 6)), .not (.not (.cmp .lss (.var 0) (.lit 6)))] }
def tB2T : Tg := { k := .ret, p := pR 35, rd := rdN, at_ := [.not bit0T, .not (.not (.not (.cmp .lss (.var 0) (.lit 6))))] }
def tCT (n : Nat) : Tg := { k := .normal, p := pT n, rd := rdX (.var 1) (.ar .add .i64 (.var 2) (.lit 1)) n (.var (10 + n)), at_ := [bit0T, .cmp .lss (.var 2) (.lit 64)], nk := nkS n }
def tDT (n : Nat) : Tg := { k := .normal, p := pT (n + 1), rd := rdX (.var 1) (.ar .add .i64 (.var 2) (.lit 1)) n (.ar .add .i64 (.cv .i64 (.var 0)) (.var 2)), at_ := [.not bit0T, .not (.not (.cmp .lss (.ar .add .u64 (.var 0) (.cv .u64 (.var 2))) (.lit 6))), .not (.not (.cmp .lss (.var 0) (.lit 6))), .cmp .lss (.var 2) (.lit 64)], nk := nkS (n + 1) }
noncomputable def stT (n : Nat) : St := { (pT n).stN (nkS n) with pc := [.cmp .geq (.var 2) (.lit 0)] }
noncomputable def roundT (n : Nat) : Bool := okK ((comp (cfgS PP) ktT (loopS PP 27)).v (lev (cfgS PP) ktT 60) (stT n) (landK [] [tAT n, tB1T, tB2T, tCT n, tDT n]))
theorem roundsT : ∀ n, n ≤ 6 → roundT n = true
  | 0, _ => by kernel_rfl
  | 1, _ => by kernel_rfl
  | 2, _ => by kernel_rfl
  | 3, _ => by kernel_rfl
  | 4, _ => by kernel_rfl
  | 5, _ => by kernel_rfl
  | 6, _ => by kernel_rfl
  | n + 7, h => absurd h (by omega)
theorem preT_ok : okK (runL ktT (lev (cfgS PP) ktT 60) [lft (bodyOf PP 27), lft (rgt (bodyOf PP 27))] (inT.stN 0) (landK [] [{ k := .normal, p := preT, rd := rdX (.var 1) (.var 2) 0 (.var 10), at_ := [] }])) = true := by kernel_rfl
theorem zeroT_ok : okK ((comp (cfgS PP) ktT (lft xT)).v (lev (cfgS PP) ktT 60) (preT.stN 0) (landK [] [{ k := .normal, p := pT 0, rd := rdX (.var 1) (.lit 0) 0 (.var 10), at_ := [] }])) = true := by kernel_rfl
noncomputable def tailT (n : Nat) : Bool := okK ((comp (cfgS PP) ktT tlT).v (lev (cfgS PP) ktT 60) ((pT n).stN (nkS n)) (landK [] [{ k := .ret, p := endT n, rd := rdX (.var 1) (.var 2) n (.var (10 + n)), at_ := [], nk := nkS n }]))
theorem tailsT : ∀ n, n ≤ 6 → tailT n = true
  | 0, _ => by kernel_rfl
  | 1, _ => by kernel_rfl
  | 2, _ => by kernel_rfl
  | 3, _ => by kernel_rfl
  | 4, _ => by kernel_rfl
  | 5, _ => by kernel_rfl
  | 6, _ => by kernel_rfl
  | n + 7, h => absurd h (by omega)
theorem resRT : evResults PP fnT ((pR 35).stN 0) = some (.tup [.sl none 0 (.exact 0), .bool (.tt false)]) := by kernel_rfl
theorem resET : ∀ n, n ≤ 6 → evResults PP fnT ((endT n).stN (nkS n)) = some (.tup [lst0 (.sl (some (0, 0)) 0 (.exact 0)) n, .bool (.tt true)])
  | 0, _ => by kernel_rfl
  | 1, _ => by kernel_rfl
  | 2, _ => by kernel_rfl
  | 3, _ => by kernel_rfl
  | 4, _ => by kernel_rfl
  | 5, _ => by kernel_rfl
  | 6, _ => by kernel_rfl
  | n + 7, h => absurd h (by omega)

end Go.Sy.Pm
