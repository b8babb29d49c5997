/- The card of the law LinkCommon: the program's own text ties the listed variable; the law's proof stands in the text that is imported. -/
import Derived.Test.YtooogbkaofmdaaaDoorTie
import Derived.Test.YtooogbkaofmdaaaDoorCards
import Derived.SevenTiedAt
import Derived.Test.YtooogbkaofmdaaaDoorMt
namespace Go.Proofs.YtooogbkaofmdaaaDoor
open Go

theorem linkCommon_card : Rows.LinkCommonCardSaid :=
  Claim7.holds_tied_plain_at .later [] [.data] true (true, "09032927fba99188ab9413ff82d2002ed5c23e001a7321e8af3cfc65171ee0b4") false
    linkCommon.over (fun _ h => by cases h) (by kernel_rfl) (fun _ h => by cases h) linkCommon_row_tie rfl ⟨rfl, rfl⟩ (by kernel_rfl) rfl
    (fun f fn hf hfn => by
      obtain rfl : f = 5 := Option.some.inj ((show Tryd.prog.funcNamed "warpbeam/warpbeamlaw09.LinkCommon" = some 5 by kernel_rfl).symm.trans hf) |>.symm
      obtain rfl : fn = Tryd.f5 := (Option.some.inj (Tryd.func5.symm.trans hfn)).symm
      exact ⟨by kernel_rfl, fun j t ht => by
        rw [Tryd.params5] at ht
        have hm : t ∈ [22, 3, 3] := by simpa using Array.mem_of_getElem? ht
        have hall : ([22, 3, 3].all fun u => !Tryd.prog.wantsStandIn u) = true := by kernel_rfl
        exact (show Tryd.prog.wantsStandIn t = false by simpa using List.all_eq_true.1 hall t hm)⟩)
    (by kernel_rfl)
#print axioms linkCommon_card
end Go.Proofs.YtooogbkaofmdaaaDoor
