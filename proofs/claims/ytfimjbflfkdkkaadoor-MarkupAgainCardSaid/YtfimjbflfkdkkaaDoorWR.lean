/- Proofs. -/
import Derived.Test.YtfimjbflfkdkkaaDoorWQ
import Derived.Test.YtfimjbflfkdkkaaDoorCards
/- The card of MarkupAgain. -/
namespace Go.Proofs.YtfimjbflfkdkkaaDoor
open Go

theorem markupAgain_card : Rows.MarkupAgainCardSaid :=
  Claim7.holds_tied_plain_at .later [] [.data, .pinned] true (true, "ff78ab06b4960e865ddbbdbf73f5971e40c92fcd6f31a987b6590b10d1bee01e") true Go.Run.Tryd.again_holds (fun _ h => by cases h) (by kernel_rfl) (fun _ h => by cases h) markupAgain_row_tie rfl ⟨rfl, rfl⟩ (by kernel_rfl) rfl
    (fun f fn hf hfn => by
      obtain rfl : f = 4 := Option.some.inj ((show (Go.Proofs.Tryd.prog).funcNamed "cardcase/cardcaselaw16.MarkupAgain" = some 4 by kernel_rfl).symm.trans hf) |>.symm
      obtain rfl : fn = Go.Proofs.Tryd.f4 := (Option.some.inj (Go.Proofs.Tryd.func4.symm.trans hfn)).symm
      exact ⟨by kernel_rfl, fun j t ht => by
        rw [Go.Proofs.Tryd.params4] at ht
        have hm : t ∈ [9] := by simpa using Array.mem_of_getElem? ht
        have hall : ([9].all fun u => !(Go.Proofs.Tryd.prog).wantsStandIn u) = true := by kernel_rfl
        exact (show (Go.Proofs.Tryd.prog).wantsStandIn t = false by simpa using List.all_eq_true.1 hall t hm)⟩)
    (by kernel_rfl)
#print axioms markupAgain_card
end Go.Proofs.YtfimjbflfkdkkaaDoor
