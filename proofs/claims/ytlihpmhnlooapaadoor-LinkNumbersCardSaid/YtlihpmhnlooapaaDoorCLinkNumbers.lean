/- The card of the law LinkNumbers: the program's own text ties the listed variable; the law's proof stands in the text that is imported. -/
import Derived.Test.YtlihpmhnlooapaaDoorTie
import Derived.Test.YtlihpmhnlooapaaDoorCards
import Derived.SevenTiedAt
import Derived.Test.YtlihpmhnlooapaaDoorNn
namespace Go.Proofs.YtlihpmhnlooapaaDoor
open Go

theorem linkNumbers_card : Rows.LinkNumbersCardSaid :=
  Claim7.holds_tied_plain_at .later [] [.data] true (true, "9c63d7491b8fbfa968b342e9cfd64230cd6c72b4ab503d3fa6e3175ff6f913f7") false
    linkNumbers.over (fun _ h => by cases h) (by kernel_rfl) (fun _ h => by cases h) linkNumbers_row_tie rfl ⟨rfl, rfl⟩ (by kernel_rfl) rfl
    (fun f fn hf hfn => by
      obtain rfl : f = 6 := Option.some.inj ((show Tryd.prog.funcNamed "warpbeam/warpbeamlaw09.LinkNumbers" = some 6 by kernel_rfl).symm.trans hf) |>.symm
      obtain rfl : fn = Tryd.f6 := (Option.some.inj (Tryd.func6.symm.trans hfn)).symm
      exact ⟨by kernel_rfl, fun j t ht => by
        rw [Tryd.params6] at ht
        have hm : t ∈ [22, 9] := by simpa using Array.mem_of_getElem? ht
        have hall : ([22, 9].all fun u => !Tryd.prog.wantsStandIn u) = true := by kernel_rfl
        exact (show Tryd.prog.wantsStandIn t = false by simpa using List.all_eq_true.1 hall t hm)⟩)
    (by kernel_rfl)
#print axioms linkNumbers_card
end Go.Proofs.YtlihpmhnlooapaaDoor
