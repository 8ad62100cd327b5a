/- The law's loop. -/
import Derived.Test.YtogfjdbkkhnmhaaPmuX
import Derived.Test.YtogfjdbkkhnmhaaPmuW
import Derived.Test.YtogfjdbkkhnmhaaK12
namespace Go.Sy.Pm
open Go.Proofs Go.RowKit

theorem add_block (a : Addr) (n : Nat) : (a.add n).block = a.block := by unfold Addr.add; split <;> rfl
theorem cell_of_heap {w w' : World} {p : Addr} (h : w.heap[p.block]? = w'.heap[p.block]?) : w.cell? p = w'.cell? p := by unfold World.cell?; rw [h]

/-! ## what the list is -/

def vals (f : Nat → Nat → Nat) (i : Nat) : List Value := [.int .u8 (f i 0), .int .u64 (f i 1), .int .u64 (f i 2), .int .u64 (f i 3), .int .u64 (f i 4)]
structure ListIn (W : World) (A : Option Addr) (len : Nat) (f : Nat → Nat → Nat) : Prop where
  l63 : len ≤ 9223372036854775807
  u8 : ∀ i, i < len → f i 0 < 256
  u64 : ∀ i, i < len → ∀ j, f i j < 18446744073709551616
  cells : ∀ i, i < len → ∃ a, A = some a ∧ ∀ j v, (vals f i)[j]? = some v → W.cell? ((a.add (i * 5)).add j) = some v

def ptrE (A : Option Addr) (i : Nat) : Value := match A with
  | some a => .pointer (some (a.add (i * 5)))
  | none => undef
def ptrF (A : Option Addr) (i : Nat) : Value := match A with
  | some a => .pointer (some ((a.add (i * 5)).add 0))
  | none => undef

/-- At a round's head. -/
structure Base (σ : Vl) (A : Option Addr) (len cap i : Nat) : Prop where
  b0 : σ.i 0 = i
  b1 : σ.i 1 = len
  b5 : ∃ n : Nat, n < 18446744073709551616 ∧ σ.i 5 = n
  b6 : ∃ n : Nat, n < 18446744073709551616 ∧ σ.i 6 = n
  v0 : σ.v 0 = .slice A len cap
  ve : ∀ j, σ.v (3 + 2 * j) = ptrE A j
  vf : ∀ j, σ.v (4 + 2 * j) = ptrF A j
/-- Within a round. -/
structure Good (σ : Vl) (A : Option Addr) (len cap i : Nat) (f : Nat → Nat → Nat) : Prop extends Base σ A len cap i where
  g2 : σ.i 2 = f i 0
  g3 : σ.i 3 = f i 1
  g4 : σ.i 4 = f i 2
  g5 : σ.i 5 = f i 3
  g6 : σ.i 6 = f i 4
  p1 : σ.v 1 = ptrE A i
  p2 : σ.v 2 = ptrF A i

theorem Base.sub {σ : Vl} {A : Option Addr} {len cap i : Nat} (H : Base σ A len cap i) {x : X} {i' : Nat} (hx : x.I σ = i') (s : St) : Base (σ.sub (rd x s)) A len cap i' where
  b0 := hx
  b1 := H.b1
  b5 := H.b5
  b6 := H.b6
  v0 := H.v0
  ve := H.ve
  vf := H.vf
theorem Good.sub {σ : Vl} {A : Option Addr} {len cap i : Nat} {f : Nat → Nat → Nat} (H : Good σ A len cap i f) (s : St) : Good (σ.sub (rd (.var 0) s)) A len cap i f where
  toBase := H.toBase.sub (x := .var 0) (i' := i) H.b0 s
  g2 := H.g2
  g3 := H.g3
  g4 := H.g4
  g5 := H.g5
  g6 := H.g6
  p1 := H.p1
  p2 := H.p2

/-- The round's values are laid. -/
def setE (f : Nat → Nat → Nat) (i : Nat) : Sb :=
  { i := fun j => match j with
      | 0 => .var 0 | 1 => .var 1 | 2 => .lit (f i 0) | 3 => .lit (f i 1) | 4 => .lit (f i 2) | 5 => .lit (f i 3) | 6 => .lit (f i 4) | j => .var j
    b := .bvar, s := .svar
    v := fun j => match j with | 0 => 0 | 1 => 3 + 2 * i | 2 => 4 + 2 * i | j => j
    π := [0, 1], κ := [] }

section
variable {W : World} {A : Option Addr} {len cap i : Nat} {f : Nat → Nat → Nat} {σ : Vl} {m : Md} {a : Act} {w : World}

theorem Base.set (H : Base σ A len cap i) (hL : ListIn W A len f) (hi : i < len) : Good (σ.sub (setE f i)) A len cap i f where
  b0 := H.b0
  b1 := H.b1
  b5 := ⟨f i 3, hL.u64 i hi 3, rfl⟩
  b6 := ⟨f i 4, hL.u64 i hi 4, rfl⟩
  v0 := H.v0
  ve := fun j => by
    have e : (setE f i).v (3 + 2 * j) = 3 + 2 * j := by rw [show 3 + 2 * j = 2 * j + 3 from by omega]; rfl
    show σ.v ((setE f i).v (3 + 2 * j)) = _
    rw [e]; exact H.ve j
  vf := fun j => by
    have e : (setE f i).v (4 + 2 * j) = 4 + 2 * j := by rw [show 4 + 2 * j = (2 * j + 1) + 3 from by omega]; rfl
    show σ.v ((setE f i).v (4 + 2 * j)) = _
    rw [e]; exact H.vf j
  g2 := rfl
  g3 := rfl
  g4 := rfl
  g5 := rfl
  g6 := rfl
  p1 := H.ve i
  p2 := H.vf i

theorem set_fits : fits [] (setE f i) (pat (.var 0)) (pat (.var 0)).st0 = true := by kernel_rfl

theorem set_RS (H : RS σ (Bs.of W) (fun _ => none) m (pat (.var 0)).st0 a w) : ∃ m', RS (σ.sub (setE f i)) (Bs.of W) (fun _ => none) m' (pat (.var 0)).st0 a w :=
  ⟨_, fits_RS (tb := []) (by simp) set_fits (fun _ _ h => nomatch h) H⟩

theorem Base.listAt (H : Base σ A len cap i) : ListAt σ (Bs.of W) A len cap := ⟨H.v0, H.b1, H.b5, H.b6⟩

theorem Good.roundAt (H : Good σ A len cap i f) (hL : ListIn W A len f) (hi : i < len) {b mk : X} (hb : b.I σ = f i 1) (hm : mk.I σ = f i 2) : ∃ a, A = some a ∧ RoundAt σ (Bs.of W) a len cap (.var 2) b mk := by
  obtain ⟨a, rfl, hc⟩ := hL.cells i hi
  refine ⟨a, rfl, ⟨H.v0, H.b1, H.b5, H.b6⟩, ⟨i, H.b0, hi⟩, ?_, ?_, ?_⟩
  · rw [H.p1, H.b0]; rfl
  · rw [H.p2, H.b0]; rfl
  · have h0 := hc 0 _ rfl
    have hblk : ((a.add (i * 5)).add 0).block = a.block := by rw [add_block, add_block]
    cases ho : W.heap[a.block]? with
    | none =>
      exfalso
      unfold World.cell? at h0
      rw [hblk, ho] at h0
      cases h0
    | some o =>
      have hlt := (Array.getElem?_eq_some_iff.1 ho).1
      refine ⟨o, by simp only [Bs.of, hlt, if_true]; exact ho, fun w hw j v hj => ?_⟩
      rw [H.b0]
      show w.cell? ((a.add (i * 5)).add j) = some v
      rw [cell_of_heap (w' := W) (by rw [add_block, add_block, hw, ho])]
      refine hc j v ?_
      rw [hb, hm] at hj
      have e2 : (X.var 2).I σ = f i 0 := H.g2
      rw [e2, H.g5, H.g6] at hj
      exact hj
end

/-! ## what is done, and what is meant -/

section
variable {W : World} {A : Option Addr} {len cap i : Nat} {f : Nat → Nat → Nat} {σ : Vl} {m : Md} {a : Act} {w : World} {t : Code} {Q : Exit → Act → World → Prop}

theorem kd_I (h2 : σ.i 2 = f i 0) : kd.I σ = ((f i 0 % 6 : Nat) : Int) := by
  unfold kd
  rw [arI', varI, litI, h2]
  simp only [arD]
  rw [show (6 : Int) = ((6 : Nat) : Int) from rfl]; rfl
theorem kpc_PC (h2 : σ.i 2 = f i 0) {c : Nat} (hc : f i 0 % 6 = c) : PC σ (kpc c) := by
  intro x hx
  unfold kpc at hx
  rcases List.mem_append.1 hx with hx | hx
  · obtain ⟨j, hj, rfl⟩ := List.mem_map.1 hx
    have hj := List.mem_range.1 hj
    rw [nB, eqlB, kd_I h2, litI, hc]
    have : (c : Int) ≠ (j : Int) := by omega
    simpa using this
  · rw [List.mem_singleton.1 hx, eqlB, kd_I h2, litI, hc]; simp

/-- One of the cases. -/
theorem mid_case (hL : ListIn W A len f) (hi : i < len) (hg : Good σ A len cap i f) (H : RS σ (Bs.of W) (fun _ => none) m (pat (.var 0)).st0 a w)
    (hQ : ∀ σ' m' a' w', RS σ' (Bs.of W) (fun _ => none) m' (pat (.var 0)).st0 a' w' → Good σ' A len cap i f → t.wp PP Q a' w')
    {mg : Bool} {hk : Hooks} {c : Nat} {b mk : X} {pc : List X} (hK : midK PP mg hk c b mk pc = true) (hb : b.I σ = f i 1) (hm : mk.I σ = f i 2) (hhk : CallOK σ (Bs.of W) PP (fun _ => none) hk) (hc : f i 0 % 6 = c) (hpc : PC σ pc) :
    (app 2 (mid (bb0 PP)) t).wp PP Q a w := by
  obtain ⟨a0, _, hR⟩ := hg.roundAt hL hi hb hm
  have H' : RS σ (Bs.of W) (fun _ => none) m (stK (kpc c ++ pc)) a w := ⟨H.tm, H.nt, H.hp, PC.append.2 ⟨kpc_PC hg.g2 hc, hpc⟩, H.de, H.gl⟩
  refine landsA_sound (C := cfg PP mg hk b mk) (tb := []) (by simp) (ora_ok hR) hhk (midK_ok hK) (by simp [tgB]) rfl H' ?_
  rintro e a' w' ⟨tg, htg, he, s, m', hr, _⟩
  simp only [List.mem_cons, List.not_mem_nil, or_false] at htg
  subst htg
  have := okE_n he
  subst this
  exact hQ _ m' a' w' hr (hg.sub s)

theorem m0 : midK PP false hkNone 0 (.var 3) (.var 4) [] = true := by kernel_rfl
theorem m4_0 : midK PP false hkNone 4 (.lit 0) (.var 4) [] = true := by kernel_rfl
theorem m4_1 : midK PP false hkNone 4 (.lit 1) (.var 4) [] = true := by kernel_rfl
theorem m4_2 : midK PP false hkNone 4 (.lit 2) (.var 4) [] = true := by kernel_rfl
theorem m4_3 : midK PP false hkNone 4 (.lit 3) (.var 4) [] = true := by kernel_rfl
theorem m4_4 : midK PP false hkNone 4 (.lit 4) (.var 4) [] = true := by kernel_rfl
theorem m4_5 : midK PP false hkNone 4 (.lit 5) (.var 4) [] = true := by kernel_rfl
theorem m4_6 : midK PP false hkNone 4 (.var 3) (.var 4) [.not (.cmp .lss (.var 3) (.lit 6))] = true := by kernel_rfl
theorem m5 : midK PP true hkNone 5 (.var 3) (.var 4) [] = true := by kernel_rfl
theorem m1b : midK PP false hkBad 1 (.var 3) (.var 4) [] = true := by kernel_rfl
theorem m2b : midK PP false hkBad 2 (.var 3) (.var 4) [] = true := by kernel_rfl
theorem m3b : midK PP false hkBad 3 (.var 3) (.var 4) [] = true := by kernel_rfl

theorem mid_wp (hL : ListIn W A len f) (hi : i < len) (hg : Good σ A len cap i f) (H : RS σ (Bs.of W) (fun _ => none) m (pat (.var 0)).st0 a w)
    (hQ : ∀ σ' m' a' w', RS σ' (Bs.of W) (fun _ => none) m' (pat (.var 0)).st0 a' w' → Good σ' A len cap i f → t.wp PP Q a' w') : (app 2 (mid (bb0 PP)) t).wp PP Q a w := by
  have h3 : (X.var 3).I σ = f i 1 := hg.g3
  have h4 : (X.var 4).I σ = f i 2 := hg.g4
  have hN := hkN_ok σ (Bs.of W) PP (fun _ => none)
  have hsets : ∀ c, (∀ p0 p1 p2 p3 p4 p5, midW c p0 p1 p2 p3 p4 p5 = true) → midK PP false hkBad c (.var 3) (.var 4) [] = true → f i 0 % 6 = c → (app 2 (mid (bb0 PP)) t).wp PP Q a w := by
    intro c hW hB hc
    have hb := hL.u64 i hi 1
    have hm := hL.u64 i hi 2
    by_cases hgood : GoodA (f i 1) (f i 2) 64
    · obtain ⟨p0, p1, p2, p3, p4, p5, e⟩ := SA_cases hgood
      have hhk := hkSet_ok (σ := σ) (β := Bs.of W) hb hm hg.g3 hg.g4 hgood
      rw [e] at hhk
      exact mid_case hL hi hg H hQ (hW p0 p1 p2 p3 p4 p5) h3 h4 hhk hc PC.nil
    · exact mid_case hL hi hg H hQ hB h3 h4 (hkBad_ok hb hm hg.g3 hg.g4 hgood) hc PC.nil
  have hc : f i 0 % 6 = 0 ∨ f i 0 % 6 = 1 ∨ f i 0 % 6 = 2 ∨ f i 0 % 6 = 3 ∨ f i 0 % 6 = 4 ∨ f i 0 % 6 = 5 := by omega
  rcases hc with hc | hc | hc | hc | hc | hc
  · exact mid_case hL hi hg H hQ m0 h3 h4 hN hc PC.nil
  · exact hsets 1 w1 m1b hc
  · exact hsets 2 w2 m2b hc
  · exact hsets 3 w3 m3b hc
  · have hb : f i 1 = 0 ∨ f i 1 = 1 ∨ f i 1 = 2 ∨ f i 1 = 3 ∨ f i 1 = 4 ∨ f i 1 = 5 ∨ 6 ≤ f i 1 := by omega
    rcases hb with hb | hb | hb | hb | hb | hb | hb
    · exact mid_case hL hi hg H hQ m4_0 (by rw [litI, hb]; rfl) h4 hN hc PC.nil
    · exact mid_case hL hi hg H hQ m4_1 (by rw [litI, hb]; rfl) h4 hN hc PC.nil
    · exact mid_case hL hi hg H hQ m4_2 (by rw [litI, hb]; rfl) h4 hN hc PC.nil
    · exact mid_case hL hi hg H hQ m4_3 (by rw [litI, hb]; rfl) h4 hN hc PC.nil
    · exact mid_case hL hi hg H hQ m4_4 (by rw [litI, hb]; rfl) h4 hN hc PC.nil
    · exact mid_case hL hi hg H hQ m4_5 (by rw [litI, hb]; rfl) h4 hN hc PC.nil
    · refine mid_case hL hi hg H hQ m4_6 h3 h4 hN hc ?_
      rw [PC.cons]
      refine ⟨?_, PC.nil⟩
      rw [nB, lssB, h3, litI]
      have : ¬ ((f i 1 : Nat) : Int) < 6 := by omega
      simpa using this
  · exact mid_case hL hi hg H hQ m5 h3 h4 hN hc PC.nil
end

end Go.Sy.Pm
