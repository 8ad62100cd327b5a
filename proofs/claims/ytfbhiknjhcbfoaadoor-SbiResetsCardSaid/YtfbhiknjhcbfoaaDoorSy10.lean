/- A symbolic evaluator for the model's programs: conversions, slices, append, copy. -/
import Derived.Test.YtfbhiknjhcbfoaaDoorSy9
namespace Go.Sy

section
variable {σ : Vl} {β : Bs} {P : Program} {m : Md} {h : Hp} {w : World}

theorem evUn_sound {op : UnOp} {x v : SV} {x' : Value} (he : evUn op x = some v) (hx : R σ m x x') : VP σ β P m h (Op.unary op x') v := by
  intro w H
  unfold evUn at he
  split at he
  · cases he; unfold R at hx; subst hx
    exact ⟨.bool _, by unfold R; rw [mkNot_B], by simp [Op.unary]⟩
  · cases he; unfold R at hx; subst hx
    refine ⟨.int _ _, by unfold R; rfl, ?_⟩
    simp only [Op.unary, Op.intArith, Sem.run_pure, X.I, mkAr_d, X.d, arD]
  · cases he; unfold R at hx; subst hx
    refine ⟨.int _ _, by unfold R; rfl, ?_⟩
    simp only [Op.unary, Op.intBits, Sem.run_pure, X.I, mkAr_d, X.d, arD]
  · cases he

theorem bytesOf_sound : ∀ {cs : List SV} {us : List Value} {l : List UInt8}, bytesOf cs = some l → RL σ m cs us → ∃ ns : List Int, us = ns.map (Value.int .u8) ∧ ns.map (fun n => UInt8.ofNat n.toNat) = l
  | [], us, l, he, hr => by
    unfold bytesOf at he; cases he
    rw [RL_nil] at hr; subst hr
    exact ⟨[], rfl, rfl⟩
  | c :: cs, us, l, he, hr => by
    rw [RL_cons] at hr
    obtain ⟨v, vs, rfl, h1, h2⟩ := hr
    unfold bytesOf at he
    split at he
    · cases ‹_ :: _ = []›
    · rename_i n rest heq
      cases heq
      obtain ⟨l', hl, rfl⟩ := Option.map_eq_some_iff.1 he
      obtain ⟨ns, rfl, rfl⟩ := bytesOf_sound hl h2
      unfold R at h1; subst h1
      exact ⟨n :: ns, rfl, rfl⟩
    · cases he

theorem foldl_push (ns : List Int) : ∀ (r : ByteArray), ns.foldl (fun r n => r.push (UInt8.ofNat n.toNat)) r = ⟨(r.data.toList ++ ns.map fun n => UInt8.ofNat n.toNat).toArray⟩ := by
  induction ns with
  | nil => intro r; simp
  | cons n ns ih =>
    intro r
    rw [List.foldl_cons, ih]
    apply ByteArray.ext
    simp [ByteArray.push]

theorem RL_bytes : ∀ (l : List UInt8), RL σ m (l.map fun c => SV.int .u8 (.lit c.toNat)) (l.map (fun (c : UInt8) => Value.int .u8 c.toNat))
  | [] => by simp [RL_nil]
  | c :: l => by simp only [List.map_cons, RL_cons']; exact ⟨by unfold R; rfl, RL_bytes l⟩

theorem evConv_sound (H : RW σ β m h w) {s d : TypeId} {x : SV} {x' : Value} {r : SV × Hp} (he : evConv P h s d x = some r) (hx : R σ m x x') : VR σ β P m (convert s d x') w r.1 r.2 := by
  unfold evConv at he
  split at he
  · rename_i k1 k2 k3 a hs hd
    cases he; unfold R at hx; subst hx
    refine VR.pure H (v' := .int _ _) (by unfold R; rfl) ?_
    simp only [convert, Sem.run_bind, run_underlying hs, run_underlying hd, Result.andThen_ok, Conv.intToInt, Sem.run_pure, X.I, mkCv_d, X.d]
  · rename_i a hs hd
    cases he; unfold R at hx; subst hx
    refine VR.pure H (v' := .string _) (by unfold R; rfl) ?_
    simp only [convert, Sem.run_bind, run_underlying hs, run_underlying hd, Result.andThen_ok, Sem.run_pure]
  · rename_i e l hs hd
    unfold R at hx; subst hx
    split at he
    · rename_i hu
      split at he
      · cases he
        have hrun := run_bytes_of_string w s d e ⟨(X.S σ (.sl l)).toArray⟩ hs hd hu
        have hsz : (⟨(X.S σ (.sl l)).toArray⟩ : ByteArray).size = l.length := rfl
        rw [hsz] at hrun
        have hge := grownCap_ge w l.length 0 e
        generalize hC : grownCap w l.length 0 e = C at hrun hge
        have hrow : bytesRow ⟨(X.S σ (.sl l)).toArray⟩ C = List.toArray (l.map (fun (c : UInt8) => Value.int .u8 c.toNat) ++ List.replicate (C - l.length) (Value.int .u8 0)) := by
          unfold bytesRow
          rw [hsz]
          apply Array.ext'
          simp [X.S, X.d]
        rw [hrow] at hrun
        have hr : RL σ m (l.map fun c => SV.int .u8 (.lit c.toNat)) (l.map (fun (c : UInt8) => Value.int .u8 c.toNat)) := RL_bytes l
        have H1 := (H.drew.addk C)
        have hle : m.le (⟨m.ρ, m.κ ++ [C]⟩ : Md) := ⟨⟨[], by simp⟩, ⟨[C], rfl⟩⟩
        have hle2 := hle.trans (Md.le_new (⟨m.ρ, m.κ ++ [C]⟩ : Md) w.heap.size)
        refine ⟨_, _, _, hle2, ?_, ?_, hrun⟩
        · have H2 := H1.new (o := .cells (l.map fun c => SV.int .u8 (.lit c.toNat)) e (some (h.nk, 1)) (0, 0))
            (O := .cells (List.toArray (l.map (fun (c : UInt8) => Value.int .u8 c.toNat) ++ List.replicate (C - l.length) (Value.int .u8 0))) e
              ((List.toArray (l.map (fun (c : UInt8) => Value.int .u8 c.toNat) ++ List.replicate (C - l.length) (Value.int .u8 0))).size, (List.toArray (l.map (fun (c : UInt8) => Value.int .u8 c.toNat) ++ List.replicate (C - l.length) (Value.int .u8 0))).size + 1))
            ⟨_, _, _, rfl, RL_mono hle2 _ _ hr, .inr ⟨rfl, by simp⟩, ⟨C, by simp [Md.new, ← H.lenκ], by simp; omega⟩⟩
          exact H2
        · unfold R
          refine ⟨w.heap.size, C, by simp [Md.new, ← H.lenρ], ⟨by simp [Md.new, ← H.lenκ], hge⟩, rfl⟩
      · cases he
    · cases he
  · rename_i e n c hs hd
    unfold R at hx; obtain ⟨C, _, rfl⟩ := hx
    split at he
    · rename_i hu
      cases he
      refine VR.pure H (v' := .string .empty) (by unfold R; rfl) ?_
      simp [convert, run_underlying hs, run_underlying hd, run_underlying hu, Conv.bytesToString]
    · cases he
  · rename_i e b o n c hs hd
    unfold R at hx; obtain ⟨B, C, hB, _, rfl⟩ := hx
    split at he
    · rename_i cs _ _ _ hu hb
      split at he
      · rename_i s' hs'
        obtain ⟨l, hl, rfl⟩ := Option.map_eq_some_iff.1 he
        obtain ⟨vs0, ex, F, hg, hheap, hr, hF, hsl⟩ := H.cells hb hB
        obtain ⟨rfl, hlen⟩ := cut_some hs'
        have hr' := RL_take n (RL_drop o hr)
        have hl' := RL_length hr'
        have e1 : ((vs0 ++ ex).drop o).take n = (vs0.drop o).take n := by
          by_cases h0 : n = 0
          · subst h0; simp
          · have : o + n ≤ vs0.length := by
              have := RL_length hr
              simp at hlen; omega
            rw [List.drop_append_of_le_length (by omega), List.take_append_of_le_length (by simp; omega)]
        obtain ⟨ns, hns, rfl⟩ := bytesOf_sound hl hr'
        have hld := run_loadCells_at (P := P) (o := o) hheap n (by rw [e1, hl', hlen])
        rw [e1, hns] at hld
        refine VR.pure H (v' := .string ⟨(ns.map fun n => UInt8.ofNat n.toNat).toArray⟩) (by unfold R; rfl) ?_
        have := run_bytesToString w ⟨B, o, none⟩ n C ns hld
        simp only [convert, Sem.run_bind, run_underlying hs, run_underlying hd, run_underlying hu, Result.andThen_ok, this, foldl_push]
        simp
      · cases he
    · cases he
  · cases he

theorem evConv_quiet {s d : TypeId} {k : IntKind} {x : SV} {x' : Value} {r : SV × Hp} (he : evConv P h s d x = some r) (hs : P.underlying s = some (.int k)) (hx : R σ m x x') : r.2 = h ∧ VP σ β P m h (convert s d x') r.1 := by
  unfold evConv at he
  rw [hs] at he
  split at he
  · rename_i k1 k2 k3 a hs' hd
    cases he; unfold R at hx; subst hx
    refine ⟨rfl, fun w H => ⟨.int _ _, by unfold R; rfl, ?_⟩⟩
    simp only [convert, Sem.run_bind, run_underlying hs, run_underlying hd, Result.andThen_ok, Conv.intToInt, Sem.run_pure, X.I, mkCv_d, X.d]
  all_goals first | (rename_i h1 _; cases h1; done) | (rename_i h1; cases h1; done) | cases he

/-! ### slices -/

theorem litN_sound {x : Option SV} {x' : Option Value} {l : Option Nat} (he : litN x = some l) (hx : ∀ v, x = some v → ∃ v', x' = some v' ∧ R σ m v v') (hn : x = none → x' = none) :
    (l = none ∧ x' = none) ∨ ∃ (k : IntKind) (n : Nat), l = some n ∧ x' = some (.int k n) := by
  unfold litN at he
  split at he
  · cases he; left; exact ⟨rfl, hn rfl⟩
  · rename_i k n
    split at he
    · rename_i h0
      cases he
      obtain ⟨v', e, hr⟩ := hx _ rfl
      unfold R at hr; subst hr
      right
      refine ⟨k, n.toNat, rfl, ?_⟩
      rw [e]
      simp only [X.I, X.d]
      rw [Int.toNat_of_nonneg h0]
    · cases he
  · cases he

theorem bound_run (k : IntKind) (n y : Nat) (c : BoundsCode) (hn : n ≤ y) (w : World) : (Instr.sliceBound (.int k n) y c).run P w = .ok n w := by
  rw [run_sliceBound w k n y c (by omega) (by omega)]; simp

/-- The three bounds of a slice expression. -/
theorem bounds_run {isS : Bool} {len cap : Nat} {lo hi mx : Option Value} {l? h? m? : Option Nat}
    (hl : (l? = none ∧ lo = none) ∨ ∃ (k : IntKind) (n : Nat), l? = some n ∧ lo = some (.int k n))
    (hh : (h? = none ∧ hi = none) ∨ ∃ (k : IntKind) (n : Nat), h? = some n ∧ hi = some (.int k n))
    (hm : (m? = none ∧ mx = none) ∨ ∃ (k : IntKind) (n : Nat), m? = some n ∧ mx = some (.int k n))
    (h1 : l?.getD 0 ≤ h?.getD len) (h2 : h?.getD len ≤ m?.getD cap) (h3 : m?.getD cap ≤ cap) (h4 : m?.isNone = true ∨ h?.isSome = true) (w : World) :
    (Instr.sliceBounds isS len cap lo hi mx).run P w = .ok (l?.getD 0, h?.getD len, m?.getD cap) w := by
  unfold Instr.sliceBounds
  rcases hl with ⟨rfl, rfl⟩ | ⟨kl, nl, rfl, rfl⟩ <;> rcases hh with ⟨rfl, rfl⟩ | ⟨kh, nh, rfl, rfl⟩ <;> rcases hm with ⟨rfl, rfl⟩ | ⟨km, nm, rfl, rfl⟩ <;>
    simp only [Option.getD_none, Option.getD_some, Option.isNone_none, Option.isNone_some, Option.isSome_none, Option.isSome_some] at h1 h2 h3 h4
  all_goals first
    | (rcases h4 with h4 | h4 <;> cases h4; done)
    | (simp only [Sem.run_bind, Sem.run_pure, Result.andThen_ok, bound_run _ _ _ _ h1, bound_run _ _ _ _ h2, bound_run _ _ _ _ h3, Option.getD_none, Option.getD_some, Option.isSome_none, Option.isSome_some]; done)
    | (simp only [Sem.run_bind, Sem.run_pure, Result.andThen_ok, bound_run _ _ _ _ h1, bound_run _ _ _ _ (Nat.le_trans h2 h3), Option.getD_none, Option.getD_some]; done)
    | (simp only [Sem.run_bind, Sem.run_pure, Result.andThen_ok, bound_run _ _ _ _ h2, Option.getD_none, Option.getD_some]; done)
    | (simp only [Sem.run_bind, Sem.run_pure, Result.andThen_ok, bound_run _ _ _ _ h1, Option.getD_none, Option.getD_some]; done)
    | (simp only [Sem.run_bind, Sem.run_pure, Result.andThen_ok, Option.getD_none, Option.getD_some]; done)

end

end Go.Sy
