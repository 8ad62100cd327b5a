/- The sets that may be, by six answers. -/
import Derived.Test.YtogfjdbkkhnmhaaPmuV
namespace Go.Sy.Pm
open Go.Proofs
def opt (b : Bool) (n : Nat) : List Nat := match b with
  | true => [n]
  | false => []
def sub6 (p0 p1 p2 p3 p4 p5 : Bool) : List Nat := opt p0 0 ++ (opt p1 1 ++ (opt p2 2 ++ (opt p3 3 ++ (opt p4 4 ++ opt p5 5))))
noncomputable def midW (c : Nat) (p0 p1 p2 p3 p4 p5 : Bool) : Bool := midK PP false (hkSet (sub6 p0 p1 p2 p3 p4 p5)) c (.var 3) (.var 4) []

theorem SA_more' {base mask k : Nat} (h : ∀ j, k ≤ j → j < 64 → bitA mask j = false) : ∀ d, k + d ≤ 64 → SA base mask (k + d) = SA base mask k
  | 0, _ => rfl
  | d + 1, hd => by rw [← Nat.add_assoc, SA_succ0 (h _ (by omega) (by omega)), SA_more' h d (by omega)]
theorem SA_cut {base mask : Nat} (hg : GoodA base mask 64) (k : Nat) (hk : k ≤ 64) (h : ∀ j, k ≤ j → ¬ okA base j) : SA base mask 64 = SA base mask k := by
  have := SA_more' (base := base) (mask := mask) (k := k) (fun j h1 h2 => by
    cases hb : bitA mask j with
    | false => rfl
    | true => exact absurd (hg j h2 hb) (h j h1)) (64 - k) (by omega)
  rw [show k + (64 - k) = 64 from by omega] at this
  exact this

theorem SA_cases {base mask : Nat} (hg : GoodA base mask 64) : ∃ p0 p1 p2 p3 p4 p5, SA base mask 64 = sub6 p0 p1 p2 p3 p4 p5 := by
  by_cases hb : base < 6
  · have hc := SA_cut hg (6 - base) (by omega) (fun j hj h => by unfold okA at h; omega)
    rw [hc]
    have : base = 0 ∨ base = 1 ∨ base = 2 ∨ base = 3 ∨ base = 4 ∨ base = 5 := by omega
    rcases this with rfl | rfl | rfl | rfl | rfl | rfl
    · refine ⟨bitA mask 0, bitA mask 1, bitA mask 2, bitA mask 3, bitA mask 4, bitA mask 5, ?_⟩
      show ((([0, 1, 2, 3, 4, 5] : List Nat).filter (bitA mask)).map (0 + ·)) = _
      simp only [List.filter_cons, List.filter_nil]
      cases bitA mask 0 <;> cases bitA mask 1 <;> cases bitA mask 2 <;> cases bitA mask 3 <;> cases bitA mask 4 <;> cases bitA mask 5 <;> rfl
    · refine ⟨false, bitA mask 0, bitA mask 1, bitA mask 2, bitA mask 3, bitA mask 4, ?_⟩
      show ((([0, 1, 2, 3, 4] : List Nat).filter (bitA mask)).map (1 + ·)) = _
      simp only [List.filter_cons, List.filter_nil]
      cases bitA mask 0 <;> cases bitA mask 1 <;> cases bitA mask 2 <;> cases bitA mask 3 <;> cases bitA mask 4 <;> rfl
    · refine ⟨false, false, bitA mask 0, bitA mask 1, bitA mask 2, bitA mask 3, ?_⟩
      show ((([0, 1, 2, 3] : List Nat).filter (bitA mask)).map (2 + ·)) = _
      simp only [List.filter_cons, List.filter_nil]
      cases bitA mask 0 <;> cases bitA mask 1 <;> cases bitA mask 2 <;> cases bitA mask 3 <;> rfl
    · refine ⟨false, false, false, bitA mask 0, bitA mask 1, bitA mask 2, ?_⟩
      show ((([0, 1, 2] : List Nat).filter (bitA mask)).map (3 + ·)) = _
      simp only [List.filter_cons, List.filter_nil]
      cases bitA mask 0 <;> cases bitA mask 1 <;> cases bitA mask 2 <;> rfl
    · refine ⟨false, false, false, false, bitA mask 0, bitA mask 1, ?_⟩
      show ((([0, 1] : List Nat).filter (bitA mask)).map (4 + ·)) = _
      simp only [List.filter_cons, List.filter_nil]
      cases bitA mask 0 <;> cases bitA mask 1 <;> rfl
    · refine ⟨false, false, false, false, false, bitA mask 0, ?_⟩
      show ((([0] : List Nat).filter (bitA mask)).map (5 + ·)) = _
      simp only [List.filter_cons, List.filter_nil]
      cases bitA mask 0 <;> rfl
  · have hc := SA_cut hg 0 (by omega) (fun j _ h => by unfold okA at h; omega)
    exact ⟨false, false, false, false, false, false, by rw [hc]; rfl⟩

end Go.Sy.Pm
