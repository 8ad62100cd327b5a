/- SbiResets: what the walk supposes is so. -/
import Derived.Test.YtfbhiknjhcbfoaaDoorResL

namespace Go.Sy.Rs
open Go.Proofs Go.RowKit

theorem uR22 : PR.underlying 22 = some (.int .u64) := by kernel_rfl

theorem and_nat (n m : Nat) (hn : n < 18446744073709551616) (hm : m < 18446744073709551616) : arD .and .u64 n m = (n &&& m : Nat) := by
  have h1 : n < 2 ^ IntKind.u64.bits := hn
  have h2 : m < 2 ^ IntKind.u64.bits := hm
  simp only [arD, ofInt_nat _ _ h1, ofInt_nat _ _ h2]
  rw [BitVec.toNat_and, BitVec.toNat_ofNat, BitVec.toNat_ofNat, Nat.mod_eq_of_lt h1, Nat.mod_eq_of_lt h2]
  exact wrap_small .u64 _ (Nat.lt_of_le_of_lt Nat.and_le_left hn)

theorem rem_nat (n : Nat) (hn : n < 18446744073709551616) : arD .rem .u64 n 4294967296 = arD .and .u64 n 4294967295 := by
  rw [show (4294967295 : Int) = ((4294967295 : Nat) : Int) from rfl, and_nat n 4294967295 hn (by decide)]
  simp only [arD]
  rw [show (n : Int).tmod 4294967296 = ((n % 4294967296 : Nat) : Int) from by rw [show (4294967296 : Int) = ((4294967296 : Nat) : Int) from rfl]; rfl]
  congr 1
  have := Nat.and_two_pow_sub_one_eq_mod n 32
  simpa using this.symm

theorem bin_ok {σ : Vl} {op : BinOp} {x y : Operand} {t' : TypeId} {X1 Y1 : X} {s : SV} {v : SV} {m : Md} {av : Operand → Value} {o : Oper} (ho : o.op = .binOp op 22 x y t') (hx : R σ m (.int .u64 X1) (av x)) (hy : R σ m (.int .u64 Y1) (av y))
    (he : evBin PR op 22 x y (.int .u64 X1) (.int .u64 Y1) = some [([], some s)]) (hv : ∀ u, R σ m s u → R σ m v u) (w : World) :
    ∃ v', R σ m v v' ∧ (execOp av o).run PR w = .ok (.value v') w := by
  obtain ⟨cs, r, h1, _, h3⟩ := evBin_sound he hx hy
  cases List.mem_singleton.1 h1
  rcases h3 with h3 | ⟨u, u', h4, h5, h6⟩
  · cases h3
  · cases h4
    exact ⟨u', hv _ h5, by simp only [execOp, ho, Sem.run_bind] at h6 ⊢; simp [h6 w]⟩

theorem oraRes_ok {σ : Vl} {β : Bs} (hσ : ∀ k, k < 4 → ∃ n : Nat, n < 18446744073709551616 ∧ σ.i k = n) : OraOK σ β PR oraRes := by
  intro o e v h m hp av hE w _
  unfold oraRes at h
  split at h
  · rename_i op t x y t' ho
    split at h
    · split at h
      · rename_i ht; subst ht
        split at h
        · rename_i k a hx
          split at h
          · rename_i i
            split at h
            · rename_i hi
              obtain ⟨rfl, hi⟩ := hi
              split at h
              · rename_i hl
                have hy := Option.some.inj (litIs_eq hl)
                cases h
                have hrx := hE x
                have hry := hE y
                rw [hx] at hrx
                rw [hy] at hry
                obtain ⟨n, hn, hn2⟩ := hσ i hi
                refine bin_ok ho hrx hry (evBin_qu (.inr rfl) _ _ _ _ _ _ (by decide)) (fun u hu => ?_) w
                unfold R at hu ⊢
                rw [hu]
                congr 1
                show (mkAr .rem .u64 (.var i) (.lit 4294967296)).I σ = _
                rw [X.I, mkAr_d]
                simp only [X.d, X.I, hn2]
                exact rem_nat n hn
              · cases h
            · cases h
          · cases h
        · cases h
      · cases h
    · cases h
  · cases h

theorem oraN_ok {σ : Vl} {β : Bs} {P : Program} : OraOK σ β P (fun _ _ => none) := by
  intro o e v h; cases h
theorem hkN2_ok {σ : Vl} {β : Bs} {P : Program} {gl : Nat → Option Nat} : CallOK σ β P gl hkN2 := by
  intro f args h pc rets he; cases he

theorem isTrue_eq {v : SV} (h : isTrue v = true) : v = .bool (.tt true) := by
  unfold isTrue at h
  split at h
  · split at h
    · rename_i b; subst h; rfl
    · cases h
  · cases h

def vl0 : Vl := ⟨fun _ => 0, fun _ => false, fun _ => [], fun _ => undef, fun _ _ => 0, fun _ _ _ => 0, fun _ _ => false, fun _ _ => []⟩
theorem shown_calls (w : World) : Calls PR 4 #[] w fun e w' => e = .returned (.bool true) ∧ Below w.heap.size w w' := by
  refine (callK_calls (C := cfgB PR) (σ := vl0) (w := w) oraN_ok hkN2_ok rfl shown_ok (vals := []) ?_ PC.nil).mono ?_
  · rw [RL_nil]
  · rintro e w' ⟨hb, v, h', m', v', hv, _, hr, he⟩
    rw [isTrue_eq hv] at hr
    unfold R at hr
    subst he
    exact ⟨by rw [hr]; rfl, hb⟩

theorem hkRes_ok {σ : Vl} {β : Bs} : CallOK σ β PR (fun _ => none) (hkRes PR) := by
  intro f args h pc rets he m w vals H hv hp hgl hnb
  unfold hkRes at he
  split at he
  · rename_i hf
    subst hf
    split at he
    · cases he
      rw [RL_nil] at hv; subst hv
      refine (shown_calls w).mono ?_
      rintro e w' ⟨rfl, hb⟩
      exact ⟨_, h, pc, m, _, List.mem_singleton.2 rfl, hp, m.le_refl, H.mono hb, by unfold R; rfl, rfl⟩
    · cases he
  · refine hkOnce_ok (evF_ok (fun c s outs m a w he H hnb => (evC_sound (C := cfgB PR) oraN_ok hkN2_ok _ c s outs m a w _ he H hnb fun _ _ _ h => h).1) hkN2_ok) f args h pc rets he m w vals H hv hp hgl hnb

def resVl (a b c d : Int) : Vl := { vl0 with i := fun k => match k with
  | 0 => a
  | 1 => b
  | 2 => c
  | 3 => d
  | _ => 0 }
/-- Whatever is asked: true. -/
theorem resets_any {a b c d : Nat} (ha : a < 18446744073709551616) (hb : b < 18446744073709551616) (hc : c < 18446744073709551616) (hd : d < 18446744073709551616) (w : World) :
    Calls PR 3 #[.agg #[.int .u64 a, .int .u64 b], .agg #[.int .u64 c, .int .u64 d]] w fun e w' => e = .returned (.bool true) ∧ Below w.heap.size w w' := by
  refine (callK_calls (C := cfgRes PR) (σ := resVl a b c d) (w := w) (oraRes_ok fun k hk => ?_) hkRes_ok rfl law_ok (vals := [.agg #[.int .u64 a, .int .u64 b], .agg #[.int .u64 c, .int .u64 d]]) ?_ PC.nil).mono ?_
  · match k, hk with
    | 0, _ => exact ⟨a, ha, rfl⟩
    | 1, _ => exact ⟨b, hb, rfl⟩
    | 2, _ => exact ⟨c, hc, rfl⟩
    | 3, _ => exact ⟨d, hd, rfl⟩
  · unfold resArgs
    simp only [RL_cons, RL_nil]
    refine ⟨_, _, rfl, ?_, _, _, rfl, ?_, rfl⟩
    · unfold R
      refine ⟨[.int .u64 a, .int .u64 b], rfl, ?_⟩
      simp only [RL_cons, RL_nil]
      exact ⟨_, _, rfl, by unfold R; rfl, _, _, rfl, by unfold R; rfl, rfl⟩
    · unfold R
      refine ⟨[.int .u64 c, .int .u64 d], rfl, ?_⟩
      simp only [RL_cons, RL_nil]
      exact ⟨_, _, rfl, by unfold R; rfl, _, _, rfl, by unfold R; rfl, rfl⟩
  · rintro e w' ⟨hb, v, h', m', v', hv, _, hr, he⟩
    rw [isTrue_eq hv] at hr
    unfold R at hr
    subst he
    exact ⟨by rw [hr]; rfl, hb⟩
end Go.Sy.Rs
