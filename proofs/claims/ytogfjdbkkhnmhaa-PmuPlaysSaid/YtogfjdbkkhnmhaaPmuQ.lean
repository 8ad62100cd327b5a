/- The law, walked. -/
import Derived.Test.YtogfjdbkkhnmhaaPmuL
namespace Go.Sy.Pm
open Go.Proofs Go.RowKit

/-! ## the pieces of the text -/

noncomputable def BB : Code := bb0 PP
noncomputable def LB : Code := lb0 PP
theorem lb_split : lb0 PP = rseq [lft (lb0 PP)] (.seq (.block 1 (bb0 PP)) (rgt (rgt (lb0 PP)))) := by kernel_rfl
theorem bb_split : bb0 PP = rseq [lft (bb0 PP)] (app 2 (mid (bb0 PP)) (rgt (rgt (rgt (rgt (bb0 PP)))))) := by kernel_rfl
noncomputable def pf : List Code := [lft (bodyOf PP 3), lft (rgt (bodyOf PP 3)), lft (rgt (rgt (bodyOf PP 3))), lft (rgt (rgt (rgt (bodyOf PP 3)))), lft (rgt (rgt (rgt (rgt (bodyOf PP 3)))))]
noncomputable def rst : Code := rgt (rgt (rgt (rgt (rgt (bodyOf PP 3)))))
theorem body_split : bodyOf PP 3 = rseq pf (.seq (.seq (lft (lft rst)) (.block 0 (.loop (lb0 PP)))) (rgt rst)) := by kernel_rfl
noncomputable def fnL : Func := (PP.funcs[3]?).getD default
theorem funL : PP.funcs[3]? = some fnL := by kernel_rfl
theorem bodyL : fnL.body = some (bodyOf PP 3) := by kernel_rfl
theorem ntmL : fnL.ntmps = 103 := by kernel_rfl

def inL : Pat := { tm := [(0, .opq 0)], nt := 103, os := [], pc := [] }
def preL : Pat := { pat (.var 0) with tm := [(0, .opq 0), (4, .ptr (some (0, 0))), (5, .ptr (some (1, 0)))] }
def endL : Pat := { tm := [(2, .bool (.tt true))], nt := 103, os := [], pc := [] }
noncomputable def ktN : Kit (cfgS PP) := kit (cfgS PP) (fun _ => true) fun _ _ _ => rfl
theorem pre_ok : okK (runL ktN (lev (cfgS PP) ktN 2000) pf (inL.stN 0) (landK [] [{ k := .normal, p := preL, rd := rd (.var 0), at_ := [] }])) = true := by kernel_rfl
theorem zero_ok : okK ((comp (cfgS PP) ktN (lft (lft rst))).v (lev (cfgS PP) ktN 100) (preL.stN 0) (landK [] [{ k := .normal, p := pat (.var 0), rd := rd (.lit 0), at_ := [] }])) = true := by kernel_rfl
theorem end_ok : okK ((comp (cfgS PP) ktN (rgt rst)).v (lev (cfgS PP) ktN 100) (pat (.var 0)).st0 (landK [] [{ k := .ret, p := endL, rd := rdN, at_ := [] }])) = true := by kernel_rfl
theorem head_ok : headK PP = true := by kernel_rfl
theorem inc_ok : incK PP = true := by kernel_rfl
theorem clone_ok : cloneK PP false = true := by kernel_rfl
theorem reads_ok : readsK PP true = true := by kernel_rfl
theorem res_ok : evResults PP fnL (endL.stN 0) = some (.bool (.tt true)) := by kernel_rfl

section
variable {W : World} {A : Option Addr} {len cap : Nat} {f : Nat → Nat → Nat}

structure InvL (W : World) (A : Option Addr) (len cap i : Nat) (a : Act) (w : World) : Prop where
  hi : i ≤ len
  rs : ∃ (σ : Vl) (m : Md), RS σ (Bs.of W) (fun _ => none) m (pat (.var 0)).st0 a w ∧ Base σ A len cap i

noncomputable def muL (len : Nat) (a : Act) (_ : World) : Nat := len + 1 - (intOf (a.tmps.getD 6 undef)).toNat
theorem muL_eq {i : Nat} {a : Act} {w : World} (H : InvL W A len cap i a w) : muL len a w = len + 1 - i := by
  obtain ⟨σ, m, hr, hb⟩ := H.rs
  have h6 := hr.tm 6
  have e : (pat (.var 0)).st0.tm.get 6 = .int .i64 (.var 0) := rfl
  rw [e] at h6
  unfold R at h6
  unfold muL
  rw [h6]
  show len + 1 - (σ.i 0).toNat = _
  rw [hb.b0]; rfl

theorem piece_ok {mg : Bool} {c : Code} (h : pieceK PP mg c = true) : lands [] [tgB [] (.var 0)] (evC (cfg PP mg hkNone (.var 3) (.var 4)) 400 c (pat (.var 0)).st0) = true := landK_ok h

theorem body_wp {i : Nat} (hL : ListIn W A len f) (hi : i < len) {σ : Vl} {m : Md} {a : Act} {w : World} (hg : Good σ A len cap i f) (H : RS σ (Bs.of W) (fun _ => none) m (pat (.var 0)).st0 a w) :
    (bb0 PP).wp PP (fun e a' w' => e = .normal ∧ ∃ σ' m', RS σ' (Bs.of W) (fun _ => none) m' (pat (.var 0)).st0 a' w' ∧ Good σ' A len cap i f) a w := by
  rw [bb_split]
  obtain ⟨a0, _, hR⟩ := hg.roundAt hL hi (b := .var 3) (mk := .var 4) hg.g3 hg.g4
  have hcl : lands [] [tgB [] (.var 0)] (evL (cfg PP false hkNone (.var 3) (.var 4)) 400 [lft (bb0 PP)] (pat (.var 0)).st0) = true := by
    have h := piece_ok clone_ok
    have e : evL (cfg PP false hkNone (.var 3) (.var 4)) 400 [lft (bb0 PP)] (pat (.var 0)).st0 = evC (cfg PP false hkNone (.var 3) (.var 4)) 400 (lft (bb0 PP)) (pat (.var 0)).st0 := by
      unfold evL
      rw [bindO_congr (g := fun x => some [x]) _ (fun x => by obtain ⟨k, s⟩ := x; cases k <;> rfl), bindO_ret]
    rw [e]; exact h
  refine landsL_sound (C := cfg PP false hkNone (.var 3) (.var 4)) (tb := []) (by simp) (ora_ok hR) (hkN_ok σ _ PP _) hcl (by simp [tgB]) rfl H ?_
  rintro e a1 w1 ⟨tg, htg, he, s1, m1, hr1, _⟩
  simp only [List.mem_cons, List.not_mem_nil, or_false] at htg
  subst htg
  have := okE_n he
  subst this
  have hg1 := hg.sub s1
  refine mid_wp hL hi hg1 hr1 fun σ2 m2 a2 w2 hr2 hg2 => ?_
  obtain ⟨a0, _, hR2⟩ := hg2.roundAt hL hi (b := .var 3) (mk := .var 4) hg2.g3 hg2.g4
  refine wp_mono (lands_sound (C := cfg PP true hkNone (.var 3) (.var 4)) (tb := []) (by simp) (ora_ok hR2) (hkN_ok σ2 _ PP _) (piece_ok reads_ok) (by simp [tgB]) rfl hr2) ?_
  rintro e a3 w3 ⟨tg, htg, he, s3, m3, hr3, _⟩
  simp only [List.mem_cons, List.not_mem_nil, or_false] at htg
  subst htg
  have := okE_n he
  subst this
  exact ⟨rfl, _, m3, hr3, hg2.sub s3⟩

theorem round_wp {i : Nat} (hL : ListIn W A len f) {a : Act} {w : World} (H : InvL W A len cap i a w) :
    (lb0 PP).wp PP (fun e a' w' => (e = .normal ∧ i < len ∧ InvL W A len cap (i + 1) a' w') ∨ (e = .exit 0 ∧ InvL W A len cap i a' w')) a w := by
  obtain ⟨σ, m, hr, hb⟩ := H.rs
  rw [lb_split]
  have hhd : lands [] [{ k := .normal, p := pat (.var 0), rd := rd (.var 0), at_ := [ltC (.var 0) (.var 1), ltC (.var 0) (.lit 60)] }, { k := .exit 0, p := pat (.var 0), rd := rd (.var 0), at_ := [] }] (evL (cfgH PP) 100 [lft (lb0 PP)] (pat (.var 0)).st0) = true := by
    have h := landK_ok (K := ktH PP) head_ok
    have e : evL (cfgH PP) 100 [lft (lb0 PP)] (pat (.var 0)).st0 = evC (cfgH PP) 100 (lft (lb0 PP)) (pat (.var 0)).st0 := by
      unfold evL
      rw [bindO_congr (g := fun x => some [x]) _ (fun x => by obtain ⟨k, s⟩ := x; cases k <;> rfl), bindO_ret]
    rw [e]; exact h
  refine landsL_sound (C := cfgH PP) (tb := []) (by simp) (oraH_ok hb.listAt) (hkN_ok σ _ PP _) hhd (by simp) rfl hr ?_
  rintro e a1 w1 ⟨tg, htg, he, s1, m1, hr1, hpc⟩
  simp only [List.mem_cons, List.not_mem_nil, or_false] at htg
  rcases htg with rfl | rfl
  · have := okE_n he
    subst this
    have h1 := PC1 hpc
    unfold ltC at h1
    rw [lssB, varI, varI, hb.b0, hb.b1] at h1
    have hi : i < len := by simpa using h1
    have hb1 := hb.sub (x := .var 0) (i' := i) hb.b0 s1
    obtain ⟨m2, hr2⟩ := set_RS (f := f) (i := i) hr1
    refine wp_seq ?_
    refine wp_block ?_
    refine wp_mono (body_wp hL hi (hb1.set hL hi) hr2) ?_
    rintro e a3 w3 ⟨rfl, σ3, m3, hr3, hg3⟩
    show (rgt (rgt (lb0 PP))).wp PP _ a3 w3
    refine wp_mono (lands_sound (C := cfgH PP) (tb := []) (by simp) (oraH_ok hg3.toBase.listAt) (hkN_ok σ3 _ PP _) (landK_ok (K := ktH PP) inc_ok) (by simp) rfl hr3) ?_
    rintro e a4 w4 ⟨tg, htg, he, s4, m4, hr4, _⟩
    simp only [List.mem_cons, List.not_mem_nil, or_false] at htg
    subst htg
    have := okE_n he
    subst this
    refine .inl ⟨rfl, hi, by omega, _, m4, hr4, hg3.toBase.sub ?_ s4⟩
    rw [arI', varI, litI, hg3.b0, show (1 : Int) = ((1 : Nat) : Int) from rfl, add_nat .i64 _ _ (by have := hL.l63; simp only [lim]; omega)]
  · have := okE_x he
    subst this
    exact .inr ⟨rfl, H.hi, _, m1, hr1, hb.sub (x := .var 0) (i' := i) hb.b0 s1⟩

/-- **THE LAW'S WALK.** -/
theorem plays_any (hL : ListIn W A len f) : Calls PP 3 #[.slice A len cap] W fun e w' => e = .returned (.bool true) ∧ Below W.heap.size W w' := by
  refine calls_of_wp funL bodyL ?_
  rw [body_split]
  let σ0 : Vl := { i := fun j => match j with | 1 => len | _ => 0, b := fun _ => false, s := fun _ => [], v := fun j => match j with | 0 => .slice A len cap | j => if j % 2 = 1 then ptrE A ((j - 3) / 2) else ptrF A ((j - 4) / 2), f1 := fun _ _ => 0, f2 := fun _ _ _ => 0, p1 := fun _ _ => false, g1 := fun _ _ => [] }
  have hb0 : Base σ0 A len cap 0 := by
    refine ⟨rfl, rfl, ⟨0, by decide, rfl⟩, ⟨0, by decide, rfl⟩, rfl, fun j => ?_, fun j => ?_⟩
    · show (match 3 + 2 * j with | 0 => Value.slice A len cap | j => if j % 2 = 1 then ptrE A ((j - 3) / 2) else ptrF A ((j - 4) / 2)) = _
      rw [show 3 + 2 * j = (2 * j + 2) + 1 from by omega]
      show (if (2 * j + 2 + 1) % 2 = 1 then ptrE A ((2 * j + 2 + 1 - 3) / 2) else ptrF A ((2 * j + 2 + 1 - 4) / 2)) = _
      rw [if_pos (by omega), show (2 * j + 2 + 1 - 3) / 2 = j from by omega]
    · show (match 4 + 2 * j with | 0 => Value.slice A len cap | j => if j % 2 = 1 then ptrE A ((j - 3) / 2) else ptrF A ((j - 4) / 2)) = _
      rw [show 4 + 2 * j = (2 * j + 3) + 1 from by omega]
      show (if (2 * j + 3 + 1) % 2 = 1 then ptrE A ((2 * j + 3 + 1 - 3) / 2) else ptrF A ((2 * j + 3 + 1 - 4) / 2)) = _
      rw [if_neg (by omega), show (2 * j + 3 + 1 - 4) / 2 = j from by omega]
  have H0 : RS σ0 (Bs.of W) (fun _ => none) ⟨[], []⟩ (inL.stN 0) { tmps := #[Value.slice A len cap] ++ Array.replicate (fnL.ntmps - 1) undef, defers := [] } W := by
    refine RS_start (vals := [Value.slice A len cap]) rfl (fun i v hv => ?_) (by rw [ntmL]; rfl) PC.nil
    simp only [inL, List.mem_cons, Prod.mk.injEq, List.not_mem_nil, or_false] at hv
    obtain ⟨rfl, rfl⟩ := hv
    exact ⟨_, rfl, by unfold R; rfl⟩
  refine landsL_sound (C := cfgS PP) (tb := []) (by simp) (oraN_ok σ0 _ PP) (hkN_ok σ0 _ PP _) (landL_ok pre_ok) (by simp) rfl H0 ?_
  rintro e a1 w1 ⟨tg, htg, he, s1, m1, hr1, _⟩
  simp only [List.mem_cons, List.not_mem_nil, or_false] at htg
  subst htg
  have := okE_n he
  subst this
  have hb1 := hb0.sub (x := .var 0) (i' := 0) hb0.b0 s1
  refine wp_seq ?_
  refine wp_seq ?_
  refine wp_mono (lands_sound (C := cfgS PP) (tb := []) (by simp) (oraN_ok _ _ PP) (hkN_ok _ _ PP _) (landK_ok zero_ok) (by simp) rfl hr1) ?_
  rintro e a2 w2 ⟨tg, htg, he, s2, m2, hr2, _⟩
  simp only [List.mem_cons, List.not_mem_nil, or_false] at htg
  subst htg
  have := okE_n he
  subst this
  have hb2 := hb1.sub (x := .lit 0) (i' := 0) rfl s2
  refine wp_block ?_
  refine wp_loop (fun a w => ∃ i, InvL W A len cap i a w) (muL len) ⟨0, by omega, _, m2, hr2, hb2⟩ ?_
  rintro a3 w3 ⟨i, hI⟩
  refine wp_mono (round_wp hL hI) ?_
  rintro e a4 w4 (⟨rfl, hi, hI2⟩ | ⟨rfl, hI2⟩)
  · refine ⟨⟨i + 1, hI2⟩, ?_⟩
    rw [muL_eq hI, muL_eq hI2]; omega
  · show (rgt rst).wp PP (bodyPost PP fnL _) a4 w4
    obtain ⟨σ, m, hr, hb⟩ := hI2.rs
    refine wp_mono (lands_sound (C := cfgS PP) (tb := []) (by simp) (oraN_ok σ _ PP) (hkN_ok σ _ PP _) (landK_ok end_ok) (by simp) rfl hr) ?_
    rintro e a5 w5 ⟨tg, htg, he, s5, m5, hr5, _⟩
    simp only [List.mem_cons, List.not_mem_nil, or_false] at htg
    subst htg
    have := okE_r he
    subst this
    refine ret_post hr5 res_ok fun v' hv' => ⟨?_, hr5.hp.below⟩
    unfold R at hv'
    rw [hv']; rfl
end

end Go.Sy.Pm
