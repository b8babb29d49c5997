/- The card of the law DescrProtos: the program's own text ties the listed variable; the law's proof stands in the text that is imported. -/
import Derived.Test.YtcaepnbamnicmaaDoorTie
import Derived.Test.YtcaepnbamnicmaaDoorCards
import Derived.SevenTiedAt
import Derived.Test.YtcaepnbamnicmaaDoorLq
namespace Go.Proofs.YtcaepnbamnicmaaDoor
open Go

theorem descrProtos_card : Rows.DescrProtosCardSaid :=
  Claim7.holds_tied_plain_at .later [] [.data] true (true, "78a41e965a908f28d9fe5f21d0c021cd84b8b424fa3bc15c2bde0246a1790e83") false
    descrProtos.over (fun _ h => by cases h) (by kernel_rfl) (fun _ h => by cases h) descrProtos_row_tie rfl ⟨rfl, rfl⟩ (by kernel_rfl) rfl
    (fun f fn hf hfn => by
      obtain rfl : f = 7 := Option.some.inj ((show Tryd.prog.funcNamed "warpbeam/warpbeamlaw05.DescrProtos" = some 7 by kernel_rfl).symm.trans hf) |>.symm
      obtain rfl : fn = Tryd.f7 := (Option.some.inj (Tryd.func7.symm.trans hfn)).symm
      exact ⟨by kernel_rfl, fun j t ht => by
        rw [Tryd.params7] at ht
        have hm : t ∈ [29, 29] := by simpa using Array.mem_of_getElem? ht
        have hall : ([29, 29].all fun u => !Tryd.prog.wantsStandIn u) = true := by kernel_rfl
        exact (show Tryd.prog.wantsStandIn t = false by simpa using List.all_eq_true.1 hall t hm)⟩)
    (by kernel_rfl)
#print axioms descrProtos_card
end Go.Proofs.YtcaepnbamnicmaaDoor
