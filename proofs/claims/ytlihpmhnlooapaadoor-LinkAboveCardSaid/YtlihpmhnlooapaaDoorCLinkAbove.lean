/- The card of the law LinkAbove: the program's own text ties the listed variable; the law's proof stands in the text that is imported. -/
import Derived.Test.YtlihpmhnlooapaaDoorTie
import Derived.Test.YtlihpmhnlooapaaDoorCards
import Derived.SevenTiedAt
import Derived.Test.YtlihpmhnlooapaaDoorNl
namespace Go.Proofs.YtlihpmhnlooapaaDoor
open Go

theorem linkAbove_card : Rows.LinkAboveCardSaid :=
  Claim7.holds_tied_plain_at .later [] [.data] true (true, "9c63d7491b8fbfa968b342e9cfd64230cd6c72b4ab503d3fa6e3175ff6f913f7") false
    linkAbove.over (fun _ h => by cases h) (by kernel_rfl) (fun _ h => by cases h) linkAbove_row_tie rfl ⟨rfl, rfl⟩ (by kernel_rfl) rfl
    (fun f fn hf hfn => by
      obtain rfl : f = 5 := Option.some.inj ((show Tryd.prog.funcNamed "warpbeam/warpbeamlaw09.LinkAbove" = some 5 by kernel_rfl).symm.trans hf) |>.symm
      obtain rfl : fn = Tryd.f5 := (Option.some.inj (Tryd.func5.symm.trans hfn)).symm
      exact ⟨by kernel_rfl, fun j t ht => by
        rw [Tryd.params5] at ht
        have hm : t ∈ [22, 3, 3] := by simpa using Array.mem_of_getElem? ht
        have hall : ([22, 3, 3].all fun u => !Tryd.prog.wantsStandIn u) = true := by kernel_rfl
        exact (show Tryd.prog.wantsStandIn t = false by simpa using List.all_eq_true.1 hall t hm)⟩)
    (by kernel_rfl)
#print axioms linkAbove_card
end Go.Proofs.YtlihpmhnlooapaaDoor
