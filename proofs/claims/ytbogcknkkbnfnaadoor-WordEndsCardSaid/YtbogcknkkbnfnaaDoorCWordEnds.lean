/- The card of the law WordEnds: the program's own text ties the listed variable; the law's proof stands in the text that is imported. -/
import Derived.Test.YtbogcknkkbnfnaaDoorTie
import Derived.Test.YtbogcknkkbnfnaaDoorCards
import Derived.SevenTiedAt
import Derived.Test.YtbogcknkkbnfnaaDoorSi
namespace Go.Proofs.YtbogcknkkbnfnaaDoor
open Go

theorem wordEnds_card : Rows.WordEndsCardSaid :=
  Claim7.holds_tied_plain_at .later [] [.data, .data] true (true, "597720068da42eec73b8097d1ef2860364d41771b1c08324211d93f8fcd1ec0e") false
    wordEnds.over (fun _ h => by cases h) (by kernel_rfl) (fun _ h => by cases h) wordEnds_row_tie rfl ⟨rfl, rfl⟩ (by kernel_rfl) rfl
    (fun f fn hf hfn => by
      obtain rfl : f = 4 := Option.some.inj ((show Tryd.prog.funcNamed "warpbeam/warpbeamlaw12.WordEnds" = some 4 by kernel_rfl).symm.trans hf) |>.symm
      obtain rfl : fn = Tryd.f4 := (Option.some.inj (Tryd.func4.symm.trans hfn)).symm
      exact ⟨by kernel_rfl, fun j t ht => by
        rw [Tryd.params4] at ht
        have hm : t ∈ [22, 38] := by simpa using Array.mem_of_getElem? ht
        have hall : ([22, 38].all fun u => !Tryd.prog.wantsStandIn u) = true := by kernel_rfl
        exact (show Tryd.prog.wantsStandIn t = false by simpa using List.all_eq_true.1 hall t hm)⟩)
    (by kernel_rfl)
#print axioms wordEnds_card
end Go.Proofs.YtbogcknkkbnfnaaDoor
