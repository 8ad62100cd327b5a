/- SbiResets: the card. -/
import Derived.Test.YtfbhiknjhcbfoaaDoorResR
import Derived.Test.YtfbhiknjhcbfoaaDoorCards
import Derived.Test.YtfbhiknjhcbfoaaDoorTie
namespace Go.Proofs.YtfbhiknjhcbfoaaDoor
open Go

theorem sbiResets_card_holds : Rows.SbiResetsCardSaid :=
  Claim7.holds_tied_plain_at .later [] [.data] true (true, "718aae8d946c91675f7c37494e34b123a07c8e12f7c3c1351e2ceacdc9a40c5e") false
    sbiResets_holds (fun _ h => by cases h) (by kernel_rfl) (fun _ h => by cases h) sbiResets_row_tie rfl ⟨rfl, rfl⟩ (by kernel_rfl) rfl
    (fun f fn hf hfn => by
      obtain rfl : f = 3 := Option.some.inj ((show Tryd.prog.funcNamed "suzerain/suzerainlaw21.SbiResets" = some 3 by kernel_rfl).symm.trans hf) |>.symm
      obtain rfl : fn = Tryd.f3 := (Option.some.inj (Tryd.func3.symm.trans hfn)).symm
      exact ⟨by kernel_rfl, fun j t ht => by
        rw [Tryd.params3] at ht
        have hm : t ∈ [23] := by
          have : t ∈ [23, 23] := by simpa using Array.mem_of_getElem? ht
          simpa using this
        have hall : ([23].all fun u => !Tryd.prog.wantsStandIn u) = true := by kernel_rfl
        exact (show Tryd.prog.wantsStandIn t = false by simpa using List.all_eq_true.1 hall t hm)⟩)
    (by kernel_rfl)
end Go.Proofs.YtfbhiknjhcbfoaaDoor
#print axioms Go.Proofs.YtfbhiknjhcbfoaaDoor.sbiResets_card_holds
