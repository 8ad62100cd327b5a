/- What the law's list says is so. -/
import Derived.Test.YtogfjdbkkhnmhaaProg
import Derived.KernelRfl
import Derived.Test.YtogfjdbkkhnmhaaPmuD
namespace Go.Sy.Pm
open Go.Proofs

noncomputable abbrev PP : Program := Try.prog

theorem u22 : PP.underlying 22 = some (.slice 34) := by kernel_rfl
theorem s34 : tySize PP 34 = some 5 := by kernel_rfl
theorem a34 : tyAgg PP 34 = some true := by kernel_rfl
theorem a5 : tyAgg PP 5 = some false := by kernel_rfl
theorem s5 : tySize PP 5 = some 1 := by kernel_rfl
noncomputable def f34 : Array Field := match PP.underlying 34 with
  | some (.struct fs) => fs
  | _ => #[]
theorem u34 : PP.underlying 34 = some (.struct f34) := by kernel_rfl
theorem f340 : (f34[0]?.map fun f => (f.offset, f.type)) = some (0, 5) := by kernel_rfl

/-! ## numbers -/

theorem and_nat (n m : Nat) (hn : n < 18446744073709551616) (hm : m < 18446744073709551616) : arD .and .u64 n m = (n &&& m : Nat) := by
  have h1 : n < 2 ^ IntKind.u64.bits := hn
  have h2 : m < 2 ^ IntKind.u64.bits := hm
  simp only [arD, ofInt_nat _ _ h1, ofInt_nat _ _ h2]
  rw [BitVec.toNat_and, BitVec.toNat_ofNat, BitVec.toNat_ofNat, Nat.mod_eq_of_lt h1, Nat.mod_eq_of_lt h2]
  exact wrap_small .u64 _ (Nat.lt_of_le_of_lt Nat.and_le_left hn)

theorem shr_nat (n b : Nat) (hb : b ≤ 64) : arD .shr .u64 n b = (n / 2 ^ b : Nat) := by
  simp only [arD, Int.toNat_natCast]
  have : min b IntKind.u64.bits = b := Nat.min_eq_left hb
  rw [this, Int.fdiv_eq_ediv_of_nonneg _ (Int.le_of_lt (Int.pow_pos (by decide)))]
  rw [Int.natCast_ediv, Int.natCast_pow]; rfl

theorem quo_nat (n : Nat) (hn : n < 18446744073709551616) : arD .quo .u64 n 65536 = arD .shr .u64 n 16 := by
  rw [show (16 : Int) = ((16 : Nat) : Int) from rfl, shr_nat n 16 (by decide)]
  simp only [arD]
  rw [show ((n : Int).tdiv 65536) = ((n / 2 ^ 16 : Nat) : Int) from by
    rw [show (65536 : Int) = ((65536 : Nat) : Int) from rfl]; rfl]
  exact wrap_small .u64 _ (by simp only [lim]; omega)

theorem rem_nat (n : Nat) (hn : n < 18446744073709551616) : arD .rem .u64 n 65536 = arD .and .u64 n 65535 := by
  rw [show (65535 : Int) = ((65535 : Nat) : Int) from rfl, and_nat n 65535 hn (by decide)]
  simp only [arD]
  rw [show (n : Int).tmod 65536 = ((n % 65536 : Nat) : Int) from by rw [show (65536 : Int) = ((65536 : Nat) : Int) from rfl]; rfl]
  congr 1
  have := Nat.and_two_pow_sub_one_eq_mod n 16
  simpa using this.symm

theorem rem2_nat (n : Nat) (hn : n < 18446744073709551616) : arD .rem .u64 n 2 = arD .and .u64 n 1 := by
  rw [show (1 : Int) = ((1 : Nat) : Int) from rfl, and_nat n 1 hn (by decide)]
  simp only [arD]
  rw [show (n : Int).tmod 2 = ((n % 2 : Nat) : Int) from by rw [show (2 : Int) = ((2 : Nat) : Int) from rfl]; rfl]
  congr 1
  simp

theorem bit1 (n : Nat) (hn : n < 18446744073709551616) : (arD .and .u64 n 1 == 1) = !(arD .and .u64 n 1 == 0) := by
  rw [show (1 : Int) = ((1 : Nat) : Int) from rfl, and_nat n 1 hn (by decide)]
  have h : n &&& 1 = n % 2 := by
    simp
  rw [h]
  have : n % 2 = 0 ∨ n % 2 = 1 := by omega
  rcases this with h | h <;> rw [h] <;> rfl

theorem bit2 (n : Nat) (hn : n < 18446744073709551616) : (arD .and .u64 (arD .shr .u64 n 2) 1 == 1) = !(arD .and .u64 n 4 == 0) := by
  rw [show (2 : Int) = ((2 : Nat) : Int) from rfl, shr_nat n 2 (by decide)]
  rw [show (1 : Int) = ((1 : Nat) : Int) from rfl, and_nat (n / 2 ^ 2) 1 (by omega) (by decide)]
  rw [show (4 : Int) = ((4 : Nat) : Int) from rfl, and_nat n 4 hn (by decide)]
  have h1 : n / 2 ^ 2 &&& 1 = n / 4 % 2 := by
    simp
  have h2 : n &&& 4 = (n / 4 % 2) * 4 := by
    have h3 : (n &&& 4) % 2 ^ 3 = (n % 2 ^ 3) &&& (4 % 2 ^ 3) := Nat.and_mod_two_pow
    have h4 : n &&& 4 ≤ 4 := Nat.and_le_right
    have h5 : n &&& 4 = (n % 8) &&& 4 := by
      rw [Nat.mod_eq_of_lt (by omega)] at h3; exact h3
    rw [h5]
    have h6 : n / 4 % 2 = n % 8 / 4 := by omega
    rw [h6]
    have h7 : n % 8 < 8 := Nat.mod_lt _ (by decide)
    generalize n % 8 = r at h7
    have : r = 0 ∨ r = 1 ∨ r = 2 ∨ r = 3 ∨ r = 4 ∨ r = 5 ∨ r = 6 ∨ r = 7 := by omega
    rcases this with rfl | rfl | rfl | rfl | rfl | rfl | rfl | rfl <;> rfl
  rw [h1, h2]
  have : n / 4 % 2 = 0 ∨ n / 4 % 2 = 1 := by omega
  rcases this with h | h <;> rw [h] <;> rfl

/-! ## what the list says -/

/-- The list as it lies in memory, and what the values of the variables have to do with it. -/
structure ListAt (σ : Vl) (_ : Bs) (A : Option Addr) (len cap : Nat) : Prop where
  hsl : σ.v 0 = .slice A len cap
  hlen : σ.i 1 = len
  u5 : ∃ n : Nat, n < 18446744073709551616 ∧ σ.i 5 = n
  u6 : ∃ n : Nat, n < 18446744073709551616 ∧ σ.i 6 = n

structure RoundAt (σ : Vl) (β : Bs) (a : Addr) (len cap : Nat) (kind base mask : X) : Prop extends ListAt σ β (some a) len cap where
  hi : ∃ i : Nat, σ.i 0 = i ∧ i < len
  p1 : σ.v 1 = .pointer (some (a.add ((σ.i 0).toNat * 5)))
  p2 : σ.v 2 = .pointer (some ((a.add ((σ.i 0).toNat * 5)).add 0))
  el : ∃ o, β.Pr a.block = some o ∧ ∀ w : World, w.heap[a.block]? = some o → ∀ j v, [Value.int .u8 (kind.I σ), .int .u64 (base.I σ), .int .u64 (mask.I σ), .int .u64 (σ.i 5), .int .u64 (σ.i 6)][j]? = some v → w.cell? ((a.add ((σ.i 0).toNat * 5)).add j) = some v

section
variable {σ : Vl} {β : Bs} {A : Option Addr} {a : Addr} {len cap : Nat} {kind base mask : X}

theorem len_ok (H : ListAt σ β A len cap) {o : Oper} {c : Call} (hc : o.op = .call c) (hb : c.callee = .builtin .len) {e : Operand → SV} {v : SV} (h : oraLen e c.args.toList c.argTypes.toList = some v) {m : Md} {av : Operand → Value} (hE : ∀ x, R σ m (e x) (av x)) (w : World) :
    ∃ v', R σ m v v' ∧ (execOp av o).run PP w = .ok (.value v') w := by
  unfold oraLen at h
  split at h
  · rename_i x hx
    split at h
    · rename_i t ht
      split at h
      · rename_i h22
        subst h22
        split at h
        · rename_i i hi
          split at h
          · rename_i h0
            subst h0
            cases h
            have hr := hE x
            rw [hi] at hr
            unfold R at hr
            rw [H.hsl] at hr
            refine ⟨.int .i64 len, by unfold R; simp only [X.I, X.d, H.hlen], ?_⟩
            obtain ⟨f, args, tys⟩ := c
            simp only at hb ht hx
            subst hb
            have e1 : tys = #[22] := by apply Array.ext'; rw [ht]
            have e2 : args = #[x] := by apply Array.ext'; rw [hx]
            subst e1; subst e2
            simp only [execOp, hc]
            simp [resolve, invoke, builtin, Builtin.len_, hr, run_underlying u22, goInt]
          · cases h
        · cases h
      · cases h
    · cases h
  · cases h

theorem var_nat (H : ListAt σ β A len cap) {i : Nat} (hi : i = 5 ∨ i = 6) : ∃ n : Nat, n < 18446744073709551616 ∧ σ.i i = n := by
  rcases hi with rfl | rfl
  · exact H.u5
  · exact H.u6

/-- The value that the plain way has, told otherwise. -/
theorem bin_ok {op : BinOp} {x y : Operand} {t' : TypeId} {X1 Y1 : X} {s : SV} {v : SV} {m : Md} {av : Operand → Value} {o : Oper} (ho : o.op = .binOp op 27 x y t') (hx : R σ m (.int .u64 X1) (av x)) (hy : R σ m (.int .u64 Y1) (av y))
    (he : evBin PP op 27 x y (.int .u64 X1) (.int .u64 Y1) = some [([], some s)]) (hv : ∀ u, R σ m s u → R σ m v u) (w : World) :
    ∃ v', R σ m v v' ∧ (execOp av o).run PP w = .ok (.value v') w := by
  obtain ⟨cs, r, h1, _, h3⟩ := evBin_sound he hx hy
  cases List.mem_singleton.1 h1
  rcases h3 with h3 | ⟨u, u', h4, h5, h6⟩
  · cases h3
  · cases h4
    exact ⟨u', hv _ h5, by simp only [execOp, ho, Sem.run_bind] at h6 ⊢; simp [h6 w]⟩

theorem u64X_some {v : SV} {x : X} (h : u64X v = some x) : v = .int .u64 x := by
  unfold u64X at h
  split at h
  · split at h
    · rename_i hk; subst hk; cases h; rfl
    · cases h
  · cases h

theorem oraBin_ok (H : ListAt σ β A len cap) {op : BinOp} {x y : Operand} {t' : TypeId} {e : Operand → SV} {v : SV} {m : Md} {av : Operand → Value} {o : Oper} (ho : o.op = .binOp op 27 x y t') (h : oraBin op (e x) (e y) = some v) (hE : ∀ x, R σ m (e x) (av x)) (w : World) :
    ∃ v', R σ m v v' ∧ (execOp av o).run PP w = .ok (.value v') w := by
  unfold oraBin at h
  split at h
  · rename_i X1 n hx hy
    have hx' := u64X_some hx
    have hy' := u64X_some hy
    have hrx := hE x
    have hry := hE y
    rw [hx'] at hrx
    rw [hy'] at hry
    split at h
    · split at h
      · rename_i i
        split at h
        · rename_i hi
          obtain ⟨rfl, hi⟩ := hi
          cases h
          obtain ⟨k, hk, hk2⟩ := var_nat H hi
          refine bin_ok ho hrx hry (evBin_qu (.inl rfl) _ _ _ _ _ _ (by decide)) (fun u hu => ?_) w
          unfold R at hu ⊢
          rw [hu]
          congr 1
          show (mkAr .quo .u64 (.var i) (.lit 65536)).I σ = _
          rw [X.I, mkAr_d]
          simp only [X.d, X.I, hk2]
          exact quo_nat k hk
        · cases h
      · cases h
    · split at h
      · rename_i i
        split at h
        · rename_i hi
          obtain ⟨k, hk, hk2⟩ := var_nat H hi
          split at h
          · rename_i hn; subst hn
            cases h
            refine bin_ok ho hrx hry (evBin_qu (.inr rfl) _ _ _ _ _ _ (by decide)) (fun u hu => ?_) w
            unfold R at hu ⊢
            rw [hu]
            congr 1
            show (mkAr .rem .u64 (.var i) (.lit 65536)).I σ = _
            rw [X.I, mkAr_d]
            simp only [X.d, X.I, hk2]
            exact rem_nat k hk
          · split at h
            · rename_i hn; subst hn
              cases h
              refine bin_ok ho hrx hry (evBin_qu (.inr rfl) _ _ _ _ _ _ (by decide)) (fun u hu => ?_) w
              unfold R at hu ⊢
              rw [hu]
              congr 1
              show (mkAr .rem .u64 (.var i) (.lit 2)).I σ = _
              rw [X.I, mkAr_d]
              simp only [X.d, X.I, hk2]
              exact rem2_nat k hk
            · cases h
        · cases h
      · cases h
    · split at h
      · rename_i Y
        split at h
        · rename_i hn; subst hn
          split at h
          · rename_i i
            split at h
            · rename_i hi
              obtain ⟨k, hk, hk2⟩ := var_nat H hi
              cases h
              refine bin_ok ho hrx hry (evBin_cm rfl _ _ _ _ _ _) (fun u hu => ?_) w
              unfold R at hu ⊢
              rw [hu]
              congr 1
              show (mkCmp .eql _ _).B σ = _
              rw [X.B, mkCmp_d]
              simp only [X.d, X.B, cmpD, hk2]
              exact bit2 k hk
            · cases h
          · rename_i i
            split at h
            · rename_i hi
              obtain ⟨k, hk, hk2⟩ := var_nat H hi
              cases h
              refine bin_ok ho hrx hry (evBin_cm rfl _ _ _ _ _ _) (fun u hu => ?_) w
              unfold R at hu ⊢
              rw [hu]
              congr 1
              show (mkCmp .eql _ _).B σ = _
              rw [X.B, mkCmp_d]
              simp only [X.d, X.B, cmpD, hk2]
              exact bit1 k hk
            · cases h
          · cases h
        · cases h
      · cases h
    · cases h
  · cases h

theorem oraH_ok (H : ListAt σ β A len cap) : OraOK σ β PP oraH := by
  intro o e v h m hp av hE w _
  unfold oraH at h
  split at h
  · rename_i c hc
    split at h
    · rename_i b hb
      split at h
      · exact len_ok H hc hb h hE w
      · cases h
    · cases h
  · cases h
theorem ora_ok (H : RoundAt σ β a len cap kind base mask) : OraOK σ β PP (ora kind base mask) := by
  intro o e v h m hp av hE w hw
  obtain ⟨i, hi1, hi2⟩ := H.hi
  have ei : (σ.i 0).toNat = i := by rw [hi1]; rfl
  unfold ora at h
  split at h
  · rename_i c hc
    split at h
    · rename_i b hb
      split at h
      · exact len_ok H.toListAt hc hb h hE w
      · cases h
    · cases h
  · rename_i t x y ho
    split at h
    · rename_i ht; subst ht
      split at h
      · rename_i k j hx hy
        split at h
        · rename_i hk
          obtain ⟨rfl, rfl⟩ := hk
          cases h
          have hrx := hE x
          have hry := hE y
          rw [hx] at hrx
          rw [hy] at hry
          unfold R at hrx hry
          rw [H.hsl] at hrx
          refine ⟨.pointer (some (a.add (i * 5))), by unfold R; rw [H.p1, ei], ?_⟩
          have hj : (0 : Int) ≤ (i : Int) ∧ (i : Int) < (len : Int) := ⟨by omega, by omega⟩
          have e0 : (X.var 0).I σ = (i : Int) := hi1
          rw [e0] at hry
          simp only [execOp, ho, hrx, hry, Instr.indexAt, asIntOf, Sem.run_bind, Sem.run_pure, Result.andThen_ok, run_underlying u22, Sem.run_ite, if_pos hj, run_sizeOf' s34, Int.toNat_natCast]
        · cases h
      · cases h
    · cases h
  · rename_i t x f ho
    split at h
    · rename_i ht; subst ht
      split at h
      · rename_i k hx
        split at h
        · rename_i hk
          obtain ⟨rfl, rfl⟩ := hk
          cases h
          have hrx := hE x
          rw [hx] at hrx
          unfold R at hrx
          rw [H.p1, ei] at hrx
          refine ⟨.pointer (some ((a.add (i * 5)).add 0)), by unfold R; rw [H.p2, ei], ?_⟩
          have hf := f340
          cases hf0 : f34[0]? with
          | none => rw [hf0] at hf; cases hf
          | some fl =>
            rw [hf0] at hf
            simp only [Option.map_some, Option.some.injEq, Prod.mk.injEq] at hf
            simp [execOp, ho, hrx, Instr.fieldAt, run_underlying u34, hf0, Instr.sureAddr, fieldPlace, hf.1, hf.2, run_sizeOf' s5]
        · cases h
      · cases h
    · cases h
  · rename_i t x ho
    obtain ⟨ob, ho1, ho2⟩ := H.el
    have hcell := ho2 w (hw.prot _ _ ho1)
    rw [ei] at hcell
    split at h
    · rename_i ht; subst ht
      split at h
      · rename_i k hx
        split at h
        · rename_i hk; subst hk
          cases h
          have hrx := hE x
          rw [hx] at hrx
          unfold R at hrx
          rw [H.p1, ei] at hrx
          have hl := run_loadCells_list (P := PP) w (a.add (i * 5)) [Value.int .u8 (kind.I σ), .int .u64 (base.I σ), .int .u64 (mask.I σ), .int .u64 (σ.i 5), .int .u64 (σ.i 6)] hcell
          refine ⟨.agg #[Value.int .u8 (kind.I σ), .int .u64 (base.I σ), .int .u64 (mask.I σ), .int .u64 (σ.i 5), .int .u64 (σ.i 6)], ?_, ?_⟩
          · unfold R; exact ⟨_, rfl, by simp only [RL_cons', RL_nil]; unfold R; exact ⟨rfl, rfl, rfl, rfl, rfl, trivial⟩⟩
          · simp only [List.length_cons, List.length_nil] at hl
            simp [execOp, ho, hrx, Instr.loadAt, Instr.sureAddr, loadVar, run_isAgg' a34, run_sizeOf' s34, hl]
        · cases h
      · cases h
    · split at h
      · rename_i ht; subst ht
        split at h
        · rename_i k hx
          split at h
          · rename_i hk; subst hk
            cases h
            have hrx := hE x
            rw [hx] at hrx
            unfold R at hrx
            rw [H.p2, ei] at hrx
            have := hcell 0 _ rfl
            exact ⟨.int .u8 (kind.I σ), by unfold R; rfl, by simp [execOp, ho, hrx, Instr.loadAt, Instr.sureAddr, loadVar, run_isAgg' a5, this]⟩
          · cases h
        · cases h
      · cases h
  · rename_i op t x y t' ho
    split at h
    · rename_i ht; subst ht
      exact oraBin_ok H.toListAt ho h hE w
    · cases h
  · cases h
end

end Go.Sy.Pm
