/- The sets of a base and a mask: the contracts of both functions. -/
import Derived.Test.YtogfjdbkkhnmhaaPmuT
namespace Go.Sy.Pm
open Go.Proofs Go.RowKit

theorem oraN_ok (σ : Vl) (β : Bs) (P : Program) : OraOK σ β P (fun _ _ => none) := fun _ _ _ h => nomatch h
theorem hkN_ok (σ : Vl) (β : Bs) (P : Program) (gl : Nat → Option Nat) : CallOK σ β P gl hkNone := fun _ _ _ _ _ h => nomatch h
theorem okE_n {e : Exit} (h : okE .normal e) : e = .normal := by cases e <;> first | rfl | exact h.elim
theorem okE_r {e : Exit} (h : okE .ret e) : e = .ret := by cases e <;> first | rfl | exact h.elim
theorem okE_x {n : Nat} {e : Exit} (h : okE (.exit n) e) : e = .exit n := by
  cases e with
  | exit k => have : n = k := h
              rw [this]
  | _ => exact h.elim

def SetPost (P : Nat → Pat) (z : SV) (w : World) (base mask : Nat) (e : Ending) (w' : World) : Prop :=
  Below w.heap.size w w' ∧ ((GoodA base mask 64 ∧ ∃ (σ : Vl) (m : Md) (n : Nat) (v : Value), RW σ (Bs.of w) m ((P n).stN (nkS n)).hp w' ∧ n = (SA base mask 64).length ∧ n ≤ 6 ∧ (∀ (j x : Nat), (SA base mask 64)[j]? = some x → σ.i (10 + j) = x) ∧
    e = .returned v ∧ R σ m (.tup [lst0 z n, .bool (.tt true)]) v) ∨ (¬ GoodA base mask 64 ∧ e = .returned (.tuple #[.slice none 0 0, .bool false])))

theorem PC1 {σ : Vl} {c : X} {l : List X} (h : PC σ (c :: l)) : c.B σ = true := (PC.cons.1 h).1
theorem PC2 {σ : Vl} {c : X} {l : List X} (h : PC σ (c :: l)) : PC σ l := (PC.cons.1 h).2
theorem nB {σ : Vl} {c : X} : (X.not c).B σ = true ↔ c.B σ = false := by rw [not_B]; simp
theorem nnB {σ : Vl} {c : X} : (X.not (X.not c)).B σ = c.B σ := by rw [not_B, not_B]; simp
theorem lssB {σ : Vl} {a b : X} : (X.cmp .lss a b).B σ = decide (a.I σ < b.I σ) := rfl
theorem eqlB {σ : Vl} {a b : X} : (X.cmp .eql a b).B σ = (a.I σ == b.I σ) := rfl
theorem litI {σ : Vl} {n : Int} : (X.lit n).I σ = n := rfl
theorem varI {σ : Vl} {i : Nat} : (X.var i).I σ = σ.i i := rfl
theorem arI' {σ : Vl} {op : BinOp} {k : IntKind} {a b : X} : (X.ar op k a b).I σ = arD op k (a.I σ) (b.I σ) := rfl
theorem cvI' {σ : Vl} {k : IntKind} {a : X} : (X.cv k a).I σ = k.wrap (a.I σ) := rfl

theorem add_nat (k : IntKind) (a b : Nat) (h : a + b < lim k) : arD .add k a b = ((a + b : Nat) : Int) := by
  simp only [arD]
  rw [← Int.natCast_add]
  exact wrap_small k _ h
theorem sub6_nat (b : Nat) (h : b < 6) : arD .sub .u64 6 b = ((6 - b : Nat) : Int) := by
  simp only [arD]
  rw [show (6 : Int) - (b : Int) = ((6 - b : Nat) : Int) from by omega]
  exact wrap_small .u64 _ (by simp only [lim]; omega)
theorem cvu_nat (k : IntKind) (a : Nat) (h : a < lim k) : k.wrap (a : Int) = a := wrap_small k a h
theorem div_succ (m k : Nat) : m / 2 ^ k / 2 = m / 2 ^ (k + 1) := by rw [Nat.div_div_eq_div_mul, Nat.pow_succ]

noncomputable def muI (a : Act) (_ : World) : Nat := 65 - (intOf (a.tmps.getD 7 undef)).toNat

/-! ## S -/

structure InvS (w0 : World) (base mask k : Nat) (a : Act) (w : World) : Prop where
  hk : k ≤ 64
  hg : GoodA base mask k
  hl : (SA base mask k).length ≤ k
  h6 : (SA base mask k).length ≤ 6
  rs : ∃ (σ : Vl) (m : Md) (n : Nat), RS σ (Bs.of w0) (fun _ => none) m ((pS n).stN (nkS n)) a w ∧ AtK σ base (mask / 2 ^ k) k n (SA base mask k)

theorem muS {w0 : World} {base mask k : Nat} {a : Act} {w : World} (H : InvS w0 base mask k a w) : muI a w = 65 - k := by
  obtain ⟨σ, m, n, hr, hv⟩ := H.rs
  have h7 := hr.tm 7
  have e : ((pS n).stN (nkS n)).tm.get 7 = .int .u64 (.var 2) := by cases n <;> rfl
  rw [e] at h7
  unfold R at h7
  unfold muI
  rw [h7]
  show 65 - (σ.i 2).toNat = _
  rw [hv.h2]; rfl

theorem roundS_ok {w0 : World} {base mask k : Nat} (hb : base < 18446744073709551616) (hm : mask < 18446744073709551616) {a : Act} {w : World} (H : InvS w0 base mask k a w) :
    (loopS PP 14).wp PP (fun e a' w' => (e = .normal ∧ k < 64 ∧ InvS w0 base mask (k + 1) a' w') ∨ (e = .exit 0 ∧ ∃ k', mask / 2 ^ k' = 0 ∧ InvS w0 base mask k' a' w') ∨
      (e = .ret ∧ ¬ GoodA base mask 64 ∧ ∃ (σ : Vl) (m : Md), RS σ (Bs.of w0) (fun _ => none) m ((pR 32).stN 0) a' w')) a w := by
  obtain ⟨σ, m, n, hr, hv⟩ := H.rs
  have hn6 : n ≤ 6 := by rw [hv.hn]; exact H.h6
  have hr' : RS σ (Bs.of w0) (fun _ => none) m (stS n) a w := ⟨hr.tm, hr.nt, hr.hp, PC.nil, hr.de, hr.gl⟩
  refine wp_mono (lands_sound (C := cfgS PP) (tb := []) (by simp) (oraN_ok σ _ PP) (hkN_ok σ _ PP _) (landK_ok (roundsS n hn6)) (by simp [tAS, tB1S, tB2S, tCS, tDS]) rfl hr') ?_
  rintro e a' w' ⟨tg, htg, he, s, m', hr2, hpc⟩
  have hbit : (bit0S).B σ = !(bitA mask k) := by
    unfold bit0S
    rw [eqlB, arI', litI, litI, varI, hv.h1]
    rw [and1_nat _ (Nat.lt_of_le_of_lt (Nat.div_le_self _ _) hm)]
    unfold bitA
    have : mask / 2 ^ k % 2 = 0 ∨ mask / 2 ^ k % 2 = 1 := by omega
    rcases this with h | h <;> rw [h] <;> rfl
  simp only [List.mem_cons, List.not_mem_nil, or_false] at htg
  rcases htg with rfl | rfl | rfl | rfl | rfl
  · -- out
    have := okE_x he
    subst this
    refine .inr (.inl ⟨rfl, k, ?_, H.hk, H.hg, H.hl, H.h6, _, m', n, hr2, ?_⟩)
    · have h1 := PC1 hpc
      rw [nnB, eqlB, litI, varI, hv.h1] at h1
      have : ((mask / 2 ^ k : Nat) : Int) = 0 := by simpa using h1
      omega
    · exact hv.stay (by rw [varI]; exact hv.h1) (by rw [varI]; exact hv.h2) s
  · -- refused: too far
    have := okE_r he
    subst this
    refine .inr (.inr ⟨rfl, ?_, _, m', hr2⟩)
    have h1 := PC1 hpc
    have h2 := PC1 (PC2 hpc)
    have h3 := PC1 (PC2 (PC2 hpc))
    rw [nB, hbit] at h1
    have hbt : bitA mask k = true := by simpa using h1
    rw [nnB, lssB, litI, varI, hv.h0] at h3
    have h3 : (base : Int) < 6 := by simpa using h3
    intro hgood
    have hk64 : k < 64 := by
      by_cases h : k < 64
      · exact h
      · have hk := H.hk
        have : k = 64 := by omega
        subst this
        have : mask / 2 ^ 64 = 0 := Nat.div_eq_of_lt (by simpa using hm)
        unfold bitA at hbt; rw [this] at hbt; simp at hbt
    have := hgood k hk64 hbt
    unfold okA at this
    rw [nB, lssB, varI, hv.h2, arI', litI, varI, hv.h0, sub6_nat base (by omega)] at h2
    have h2 : ¬ (k : Int) < ((6 - base : Nat) : Int) := by simpa using h2
    omega
  · -- refused: no such base
    have := okE_r he
    subst this
    refine .inr (.inr ⟨rfl, ?_, _, m', hr2⟩)
    have h1 := PC1 hpc
    have h3 := PC1 (PC2 hpc)
    rw [nB, hbit] at h1
    have hbt : bitA mask k = true := by simpa using h1
    rw [nnB, nB, lssB, litI, varI, hv.h0] at h3
    have h3 : ¬ (base : Int) < 6 := by simpa using h3
    intro hgood
    have hk64 : k < 64 := by
      by_cases h : k < 64
      · exact h
      · have hk := H.hk
        have : k = 64 := by omega
        subst this
        have : mask / 2 ^ 64 = 0 := Nat.div_eq_of_lt (by simpa using hm)
        unfold bitA at hbt; rw [this] at hbt; simp at hbt
    have := hgood k hk64 hbt
    unfold okA at this
    omega
  · -- not in the set
    have := okE_n he
    subst this
    have h1 := PC1 hpc
    have h2 := PC1 (PC2 hpc)
    rw [hbit] at h1
    have hbf : bitA mask k = false := by simpa using h1
    have hk64 : k < 64 := by
      by_cases h : k < 64
      · exact h
      · have hk := H.hk
        have : k = 64 := by omega
        subst this
        have : mask / 2 ^ 64 = 0 := Nat.div_eq_of_lt (by simpa using hm)
        rw [nB, eqlB, litI, varI, hv.h1, this] at h2; simp at h2
    refine .inl ⟨rfl, hk64, by omega, GoodA_succ0 H.hg hbf, by rw [SA_succ0 hbf]; have := H.hl; omega, by rw [SA_succ0 hbf]; exact H.h6, _, m', n, hr2, ?_⟩
    rw [SA_succ0 hbf]
    exact hv.stay (by rw [arI', litI, varI, hv.h1, show (1 : Int) = ((1 : Nat) : Int) from rfl, shr_nat _ 1 (by decide), Nat.pow_one, div_succ]) (by rw [arI', litI, varI, hv.h2, show (1 : Int) = ((1 : Nat) : Int) from rfl, add_nat .u64 _ _ (by simp only [lim]; omega)]) s
  · -- in the set
    have := okE_n he
    subst this
    have h1 := PC1 hpc
    have h2 := PC1 (PC2 hpc)
    have h3 := PC1 (PC2 (PC2 hpc))
    have h4 := PC1 (PC2 (PC2 (PC2 hpc)))
    rw [nB, hbit] at h1
    have hbt : bitA mask k = true := by simpa using h1
    rw [nnB, lssB, litI, varI, hv.h0] at h3
    have h3 : (base : Int) < 6 := by simpa using h3
    have hk64 : k < 64 := by
      by_cases h : k < 64
      · exact h
      · have hk := H.hk
        have : k = 64 := by omega
        subst this
        have : mask / 2 ^ 64 = 0 := Nat.div_eq_of_lt (by simpa using hm)
        unfold bitA at hbt; rw [this] at hbt; simp at hbt
    have hok : okA base k := by
      rw [nnB, lssB, varI, hv.h2, arI', litI, varI, hv.h0, sub6_nat base (by omega)] at h2
      have h2 : (k : Int) < ((6 - base : Nat) : Int) := by simpa using h2
      unfold okA; omega
    have hk6 : k < 6 := by unfold okA at hok; omega
    refine .inl ⟨rfl, hk64, by omega, GoodA_succ1 H.hg hok, by rw [SA_succ1 hbt]; have := H.hl; simp; omega, by rw [SA_succ1 hbt]; have := H.hl; simp; omega, _, m', n + 1, hr2, ?_⟩
    rw [SA_succ1 hbt]
    exact hv.more (by rw [arI', litI, varI, hv.h1, show (1 : Int) = ((1 : Nat) : Int) from rfl, shr_nat _ 1 (by decide), Nat.pow_one, div_succ]) (by rw [arI', litI, varI, hv.h2, show (1 : Int) = ((1 : Nat) : Int) from rfl, add_nat .u64 _ _ (by simp only [lim]; omega)]) (by rw [arI', varI, varI, hv.h0, hv.h2, add_nat .u64 _ _ (by simp only [lim]; omega)]) s

theorem setS (w0 : World) (base mask : Nat) (hb : base < 18446744073709551616) (hm : mask < 18446744073709551616) : Calls PP 14 #[.int .u64 base, .int .u64 mask] w0 (SetPost pS (.sl none 0 (.exact 0)) w0 base mask) := by
  refine calls_of_wp funS fbodyS ?_
  rw [splitS]
  let σ0 : Vl := { i := fun j => match j with | 0 => base | 1 => mask | _ => 0, b := fun _ => false, s := fun _ => [], v := fun _ => undef, f1 := fun _ _ => 0, f2 := fun _ _ _ => 0, p1 := fun _ _ => false, g1 := fun _ _ => [] }
  have H0 : RS σ0 (Bs.of w0) (fun _ => none) ⟨[], []⟩ (inS.stN 0) { tmps := #[Value.int .u64 base, .int .u64 mask] ++ Array.replicate (fnS.ntmps - 2) undef, defers := [] } w0 := by
    refine RS_start (vals := [Value.int .u64 base, .int .u64 mask]) rfl (fun i v hv => ?_) (by rw [ntmS]; rfl) PC.nil
    simp only [inS, List.mem_cons, Prod.mk.injEq, List.not_mem_nil, or_false] at hv
    rcases hv with ⟨rfl, rfl⟩ | ⟨rfl, rfl⟩
    · exact ⟨_, rfl, by unfold R; rfl⟩
    · exact ⟨_, rfl, by unfold R; rfl⟩
  refine landsL_sound (C := cfgS PP) (tb := []) (by simp) (oraN_ok σ0 _ PP) (hkN_ok σ0 _ PP _) (landL_ok preS_ok) (by simp) rfl H0 ?_
  rintro e a1 w1 ⟨tg, htg, he, s1, m1, hr1, _⟩
  simp only [List.mem_cons, List.not_mem_nil, or_false] at htg
  subst htg
  have := okE_n he
  subst this
  refine wp_seq ?_
  refine wp_seq ?_
  refine wp_mono (lands_sound (C := cfgS PP) (tb := []) (by simp) (oraN_ok _ _ PP) (hkN_ok _ _ PP _) (landK_ok zeroS_ok) (by simp) rfl hr1) ?_
  rintro e a2 w2 ⟨tg, htg, he, s2, m2, hr2, _⟩
  simp only [List.mem_cons, List.not_mem_nil, or_false] at htg
  subst htg
  have := okE_n he
  subst this
  refine wp_block ?_
  refine wp_loop (fun a w => ∃ k, InvS w0 base mask k a w) muI ⟨0, by omega, fun j hj => absurd hj (by omega), by simp [SA], by simp [SA], _, m2, 0, hr2, rfl, ?_, rfl, rfl, fun j x hj => by simp [SA] at hj⟩ ?_
  · show (mask : Int) = ((mask / 2 ^ 0 : Nat) : Int); simp
  · rintro a3 w3 ⟨k, hI⟩
    refine wp_mono (roundS_ok hb hm hI) ?_
    rintro e a4 w4 (⟨rfl, hk, hI2⟩ | ⟨rfl, k', hd, hI2⟩ | ⟨rfl, hng, σ, m, hr⟩)
    · refine ⟨⟨k + 1, hI2⟩, ?_⟩
      rw [muS hI, muS hI2]; omega
    · -- behind the loop
      show tlS.wp PP (bodyPost PP fnS (SetPost pS (.sl none 0 (.exact 0)) w0 base mask)) a4 w4
      obtain ⟨σ, m, n, hr, hv⟩ := hI2.rs
      have hn6 : n ≤ 6 := by rw [hv.hn]; exact hI2.h6
      refine wp_mono (lands_sound (C := cfgS PP) (tb := []) (by simp) (oraN_ok σ _ PP) (hkN_ok σ _ PP _) (landK_ok (tailsS n hn6)) (by simp) rfl hr) ?_
      rintro e a5 w5 ⟨tg, htg, he, s5, m5, hr5, _⟩
      simp only [List.mem_cons, List.not_mem_nil, or_false] at htg
      subst htg
      have := okE_r he
      subst this
      refine ret_post hr5 (resES n hn6) fun v' hv' => ⟨hr5.hp.below, .inl ⟨?_, ?_⟩⟩
      · exact GoodA_more hI2.hg hd 64
      · have e64 : SA base mask 64 = SA base mask k' := by
          have := SA_more (base := base) hd (64 - k')
          rw [show k' + (64 - k') = 64 from by have := hI2.hk; omega] at this
          exact this
        have hv5 := hv.stay (x1 := .var 1) (x2 := .var 2) (by rw [varI]; exact hv.h1) (by rw [varI]; exact hv.h2) s5
        refine ⟨_, m5, n, v', ?_, by rw [e64]; exact hv.hn, hn6, by rw [e64]; exact hv5.he, rfl, ?_⟩
        · have e : ((endS n).stN (nkS n)).hp = ((pS n).stN (nkS n)).hp := by cases n <;> rfl
          rw [← e]; exact hr5.hp
        · exact hv'
    · refine ret_post hr resRS fun v' hv' => ⟨hr.hp.below, .inr ⟨hng, ?_⟩⟩
      unfold R at hv'
      obtain ⟨vs, rfl, hvs⟩ := hv'
      rw [RL_cons] at hvs
      obtain ⟨x1, r1, rfl, k1, hvs⟩ := hvs
      rw [RL_cons] at hvs
      obtain ⟨x2, r2, rfl, k2, hvs⟩ := hvs
      rw [RL_nil] at hvs; subst hvs
      unfold R at k1 k2
      obtain ⟨C, hC, rfl⟩ := k1
      have : C = 0 := hC
      subst this; subst k2
      rfl

/-! ## T -/

structure InvT (w0 : World) (base mask k : Nat) (a : Act) (w : World) : Prop where
  hk : k ≤ 64
  hg : GoodA base mask k
  hl : (SA base mask k).length ≤ k
  h6 : (SA base mask k).length ≤ 6
  rs : ∃ (σ : Vl) (m : Md) (n : Nat), RS σ (Bs.of w0) (fun _ => none) m ((pT n).stN (nkS n)) a w ∧ AtK σ base mask k n (SA base mask k)

theorem muT {w0 : World} {base mask k : Nat} {a : Act} {w : World} (H : InvT w0 base mask k a w) : muI a w = 65 - k := by
  obtain ⟨σ, m, n, hr, hv⟩ := H.rs
  have h7 := hr.tm 7
  have e : ((pT n).stN (nkS n)).tm.get 7 = .int .i64 (.var 2) := by cases n <;> rfl
  rw [e] at h7
  unfold R at h7
  unfold muI
  rw [h7]
  show 65 - (σ.i 2).toNat = _
  rw [hv.h2]; rfl

theorem roundT_ok {w0 : World} {base mask k : Nat} (hb : base < 18446744073709551616) (hm : mask < 18446744073709551616) {a : Act} {w : World} (H : InvT w0 base mask k a w) :
    (loopS PP 27).wp PP (fun e a' w' => (e = .normal ∧ k < 64 ∧ InvT w0 base mask (k + 1) a' w') ∨ (e = .exit 0 ∧ ∃ k', k' = 64 ∧ InvT w0 base mask k' a' w') ∨
      (e = .ret ∧ ¬ GoodA base mask 64 ∧ ∃ (σ : Vl) (m : Md), RS σ (Bs.of w0) (fun _ => none) m ((pR 35).stN 0) a' w')) a w := by
  obtain ⟨σ, m, n, hr, hv⟩ := H.rs
  have hn6 : n ≤ 6 := by rw [hv.hn]; exact H.h6
  have hr' : RS σ (Bs.of w0) (fun _ => none) m (stT n) a w := ⟨hr.tm, hr.nt, hr.hp, by rw [show (stT n).pc = [X.cmp .geq (.var 2) (.lit 0)] from by unfold stT; rfl, PC.cons]; exact ⟨by show decide ((X.var 2).I σ ≥ 0) = true; rw [varI, hv.h2]; simp, PC.nil⟩, hr.de, hr.gl⟩
  refine wp_mono (lands_sound (C := cfgS PP) (tb := []) (by simp) (oraN_ok σ _ PP) (hkN_ok σ _ PP _) (landK_ok (roundsT n hn6)) (by simp [tAT, tB1T, tB2T, tCT, tDT]) rfl hr') ?_
  rintro e a' w' ⟨tg, htg, he, s, m', hr2, hpc⟩
  have hbit : (bit0T).B σ = !(bitA mask k) := by
    unfold bit0T
    rw [eqlB, arI', litI, litI, arI', varI, varI, hv.h1, hv.h2, shr_nat _ _ H.hk]
    rw [and1_nat _ (Nat.lt_of_le_of_lt (Nat.div_le_self _ _) hm)]
    unfold bitA
    have : mask / 2 ^ k % 2 = 0 ∨ mask / 2 ^ k % 2 = 1 := by omega
    rcases this with h | h <;> rw [h] <;> rfl
  simp only [List.mem_cons, List.not_mem_nil, or_false] at htg
  rcases htg with rfl | rfl | rfl | rfl | rfl
  · -- out
    have := okE_x he
    subst this
    refine .inr (.inl ⟨rfl, k, ?_, H.hk, H.hg, H.hl, H.h6, _, m', n, hr2, ?_⟩)
    · have h1 := PC1 hpc
      rw [nB, lssB, litI, varI, hv.h2] at h1
      have : ¬ (k : Int) < 64 := by simpa using h1
      have := H.hk
      omega
    · exact hv.stay (by rw [varI]; exact hv.h1) (by rw [varI]; exact hv.h2) s
  · -- refused: too far
    have := okE_r he
    subst this
    refine .inr (.inr ⟨rfl, ?_, _, m', hr2⟩)
    have h1 := PC1 hpc
    have h2 := PC1 (PC2 hpc)
    have h3 := PC1 (PC2 (PC2 hpc))
    rw [nB, hbit] at h1
    have hbt : bitA mask k = true := by simpa using h1
    rw [nnB, lssB, litI, varI, hv.h0] at h3
    have h3 : (base : Int) < 6 := by simpa using h3
    intro hgood
    have hk64 : k < 64 := by
      by_cases h : k < 64
      · exact h
      · have hk := H.hk
        have : k = 64 := by omega
        subst this
        have : mask / 2 ^ 64 = 0 := Nat.div_eq_of_lt (by simpa using hm)
        unfold bitA at hbt; rw [this] at hbt; simp at hbt
    have := hgood k hk64 hbt
    unfold okA at this
    rw [nB, lssB, arI', cvI', litI, varI, varI, hv.h0, hv.h2, cvu_nat .u64 k (by simp only [lim]; omega), add_nat .u64 _ _ (by simp only [lim]; omega)] at h2
    have h2 : ¬ ((base + k : Nat) : Int) < 6 := by simpa using h2
    omega
  · -- refused: no such base
    have := okE_r he
    subst this
    refine .inr (.inr ⟨rfl, ?_, _, m', hr2⟩)
    have h1 := PC1 hpc
    have h3 := PC1 (PC2 hpc)
    rw [nB, hbit] at h1
    have hbt : bitA mask k = true := by simpa using h1
    rw [nnB, nB, lssB, litI, varI, hv.h0] at h3
    have h3 : ¬ (base : Int) < 6 := by simpa using h3
    intro hgood
    have hk64 : k < 64 := by
      by_cases h : k < 64
      · exact h
      · have hk := H.hk
        have : k = 64 := by omega
        subst this
        have : mask / 2 ^ 64 = 0 := Nat.div_eq_of_lt (by simpa using hm)
        unfold bitA at hbt; rw [this] at hbt; simp at hbt
    have := hgood k hk64 hbt
    unfold okA at this
    omega
  · -- not in the set
    have := okE_n he
    subst this
    have h1 := PC1 hpc
    have h2 := PC1 (PC2 hpc)
    rw [hbit] at h1
    have hbf : bitA mask k = false := by simpa using h1
    have hk64 : k < 64 := by
      rw [lssB, litI, varI, hv.h2] at h2
      have : (k : Int) < 64 := by simpa using h2
      omega
    refine .inl ⟨rfl, hk64, by omega, GoodA_succ0 H.hg hbf, by rw [SA_succ0 hbf]; have := H.hl; omega, by rw [SA_succ0 hbf]; exact H.h6, _, m', n, hr2, ?_⟩
    rw [SA_succ0 hbf]
    exact hv.stay (by rw [varI]; exact hv.h1) (by rw [arI', litI, varI, hv.h2, show (1 : Int) = ((1 : Nat) : Int) from rfl, add_nat .i64 _ _ (by simp only [lim]; omega)]) s
  · -- in the set
    have := okE_n he
    subst this
    have h1 := PC1 hpc
    have h2 := PC1 (PC2 hpc)
    have h3 := PC1 (PC2 (PC2 hpc))
    have h4 := PC1 (PC2 (PC2 (PC2 hpc)))
    rw [nB, hbit] at h1
    have hbt : bitA mask k = true := by simpa using h1
    rw [nnB, lssB, litI, varI, hv.h0] at h3
    have h3 : (base : Int) < 6 := by simpa using h3
    have hk64 : k < 64 := by
      rw [lssB, litI, varI, hv.h2] at h4
      have : (k : Int) < 64 := by simpa using h4
      omega
    have hok : okA base k := by
      rw [nnB, lssB, arI', cvI', litI, varI, varI, hv.h0, hv.h2, cvu_nat .u64 k (by simp only [lim]; omega), add_nat .u64 _ _ (by simp only [lim]; omega)] at h2
      have h2 : ((base + k : Nat) : Int) < 6 := by simpa using h2
      unfold okA; omega
    have hk6 : k < 6 := by unfold okA at hok; omega
    refine .inl ⟨rfl, hk64, by omega, GoodA_succ1 H.hg hok, by rw [SA_succ1 hbt]; have := H.hl; simp; omega, by rw [SA_succ1 hbt]; have := H.hl; simp; omega, _, m', n + 1, hr2, ?_⟩
    rw [SA_succ1 hbt]
    exact hv.more (by rw [varI]; exact hv.h1) (by rw [arI', litI, varI, hv.h2, show (1 : Int) = ((1 : Nat) : Int) from rfl, add_nat .i64 _ _ (by simp only [lim]; omega)]) (by rw [arI', cvI', varI, varI, hv.h0, hv.h2, cvu_nat .i64 base (by simp only [lim]; omega), add_nat .i64 _ _ (by simp only [lim]; omega)]) s

theorem setT (w0 : World) (base mask : Nat) (hb : base < 18446744073709551616) (hm : mask < 18446744073709551616) : Calls PP 27 #[.int .u64 base, .int .u64 mask] w0 (SetPost pT (.sl (some (0, 0)) 0 (.exact 0)) w0 base mask) := by
  refine calls_of_wp funT fbodyT ?_
  rw [splitT]
  let σ0 : Vl := { i := fun j => match j with | 0 => base | 1 => mask | _ => 0, b := fun _ => false, s := fun _ => [], v := fun _ => undef, f1 := fun _ _ => 0, f2 := fun _ _ _ => 0, p1 := fun _ _ => false, g1 := fun _ _ => [] }
  have H0 : RS σ0 (Bs.of w0) (fun _ => none) ⟨[], []⟩ (inT.stN 0) { tmps := #[Value.int .u64 base, .int .u64 mask] ++ Array.replicate (fnT.ntmps - 2) undef, defers := [] } w0 := by
    refine RS_start (vals := [Value.int .u64 base, .int .u64 mask]) rfl (fun i v hv => ?_) (by rw [ntmT]; rfl) PC.nil
    simp only [inT, List.mem_cons, Prod.mk.injEq, List.not_mem_nil, or_false] at hv
    rcases hv with ⟨rfl, rfl⟩ | ⟨rfl, rfl⟩
    · exact ⟨_, rfl, by unfold R; rfl⟩
    · exact ⟨_, rfl, by unfold R; rfl⟩
  refine landsL_sound (C := cfgS PP) (tb := []) (by simp) (oraN_ok σ0 _ PP) (hkN_ok σ0 _ PP _) (landL_ok preT_ok) (by simp) rfl H0 ?_
  rintro e a1 w1 ⟨tg, htg, he, s1, m1, hr1, _⟩
  simp only [List.mem_cons, List.not_mem_nil, or_false] at htg
  subst htg
  have := okE_n he
  subst this
  refine wp_seq ?_
  refine wp_seq ?_
  refine wp_mono (lands_sound (C := cfgS PP) (tb := []) (by simp) (oraN_ok _ _ PP) (hkN_ok _ _ PP _) (landK_ok zeroT_ok) (by simp) rfl hr1) ?_
  rintro e a2 w2 ⟨tg, htg, he, s2, m2, hr2, _⟩
  simp only [List.mem_cons, List.not_mem_nil, or_false] at htg
  subst htg
  have := okE_n he
  subst this
  refine wp_block ?_
  refine wp_loop (fun a w => ∃ k, InvT w0 base mask k a w) muI ⟨0, by omega, fun j hj => absurd hj (by omega), by simp [SA], by simp [SA], _, m2, 0, hr2, rfl, ?_, rfl, rfl, fun j x hj => by simp [SA] at hj⟩ ?_
  · rfl
  · rintro a3 w3 ⟨k, hI⟩
    refine wp_mono (roundT_ok hb hm hI) ?_
    rintro e a4 w4 (⟨rfl, hk, hI2⟩ | ⟨rfl, k', hd, hI2⟩ | ⟨rfl, hng, σ, m, hr⟩)
    · refine ⟨⟨k + 1, hI2⟩, ?_⟩
      rw [muT hI, muT hI2]; omega
    · -- behind the loop
      show tlT.wp PP (bodyPost PP fnT (SetPost pT (.sl (some (0, 0)) 0 (.exact 0)) w0 base mask)) a4 w4
      obtain ⟨σ, m, n, hr, hv⟩ := hI2.rs
      have hn6 : n ≤ 6 := by rw [hv.hn]; exact hI2.h6
      refine wp_mono (lands_sound (C := cfgS PP) (tb := []) (by simp) (oraN_ok σ _ PP) (hkN_ok σ _ PP _) (landK_ok (tailsT n hn6)) (by simp) rfl hr) ?_
      rintro e a5 w5 ⟨tg, htg, he, s5, m5, hr5, _⟩
      simp only [List.mem_cons, List.not_mem_nil, or_false] at htg
      subst htg
      have := okE_r he
      subst this
      refine ret_post hr5 (resET n hn6) fun v' hv' => ⟨hr5.hp.below, .inl ⟨?_, ?_⟩⟩
      · rw [← hd]; exact hI2.hg
      · subst hd
        have hv5 := hv.stay (x1 := .var 1) (x2 := .var 2) (by rw [varI]; exact hv.h1) (by rw [varI]; exact hv.h2) s5
        refine ⟨_, m5, n, v', ?_, hv.hn, hn6, hv5.he, rfl, ?_⟩
        · have e : ((endT n).stN (nkS n)).hp = ((pT n).stN (nkS n)).hp := by cases n <;> rfl
          rw [← e]; exact hr5.hp
        · exact hv'
    · refine ret_post hr resRT fun v' hv' => ⟨hr.hp.below, .inr ⟨hng, ?_⟩⟩
      unfold R at hv'
      obtain ⟨vs, rfl, hvs⟩ := hv'
      rw [RL_cons] at hvs
      obtain ⟨x1, r1, rfl, k1, hvs⟩ := hvs
      rw [RL_cons] at hvs
      obtain ⟨x2, r2, rfl, k2, hvs⟩ := hvs
      rw [RL_nil] at hvs; subst hvs
      unfold R at k1 k2
      obtain ⟨C, hC, rfl⟩ := k1
      have : C = 0 := hC
      subst this; subst k2
      rfl

end Go.Sy.Pm
