/- The card of the law DescrKnown: the program's own text ties the listed variable; the law's proof stands in the text that is imported. -/
import Derived.Test.YtcaepnbamnicmaaDoorTie
import Derived.Test.YtcaepnbamnicmaaDoorCards
import Derived.SevenTiedAt
import Derived.Test.YtcaepnbamnicmaaDoorLk
namespace Go.Proofs.YtcaepnbamnicmaaDoor
open Go

theorem descrKnown_card : Rows.DescrKnownCardSaid :=
  Claim7.holds_tied_plain_at .later [] [.data] true (true, "78a41e965a908f28d9fe5f21d0c021cd84b8b424fa3bc15c2bde0246a1790e83") false
    descrKnown.over (fun _ h => by cases h) (by kernel_rfl) (fun _ h => by cases h) descrKnown_row_tie rfl ⟨rfl, rfl⟩ (by kernel_rfl) rfl
    (fun f fn hf hfn => by
      obtain rfl : f = 11 := Option.some.inj ((show Tryd.prog.funcNamed "warpbeam/warpbeamlaw05.DescrKnown" = some 11 by kernel_rfl).symm.trans hf) |>.symm
      obtain rfl : fn = Tryd.f11 := (Option.some.inj (Tryd.func11.symm.trans hfn)).symm
      exact ⟨by kernel_rfl, fun j t ht => by
        rw [Tryd.params11] at ht
        have hm : t ∈ [] := by simpa using Array.mem_of_getElem? ht
        have hall : ([].all fun u => !Tryd.prog.wantsStandIn u) = true := by kernel_rfl
        exact (show Tryd.prog.wantsStandIn t = false by simpa using List.all_eq_true.1 hall t hm)⟩)
    (by kernel_rfl)
#print axioms descrKnown_card
end Go.Proofs.YtcaepnbamnicmaaDoor
