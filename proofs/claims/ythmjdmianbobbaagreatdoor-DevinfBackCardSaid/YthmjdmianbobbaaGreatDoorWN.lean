/- The card of DevinfBack. -/
import Derived.Test.YthmjdmianbobbaaGreatDoorWM
import Derived.Test.YthmjdmianbobbaaGreatDoorCards
namespace Go.Proofs.YthmjdmianbobbaaGreatDoor
open Go
theorem devinfBack_card : Rows.DevinfBackCardSaid :=
 Claim7.holds_tied_plain_at .later [] [.data, .listed, .data, .pinned] true (true, "5b73de2f7c9530c6751e7c8263d50925864ef6655fc6ad7e12e4680f3ab8aa55") true Go.Run.Tryz.back_holds (fun _ h => by cases h) (by kernel_rfl) (fun _ h => by cases h) devinfBack_row_tie rfl ⟨rfl, rfl⟩ (by kernel_rfl) rfl
  (fun f fn hf hfn => by
   obtain rfl : f = 5 := Option.some.inj ((show (Go.Proofs.Tryz.prog).funcNamed "cardcase/cardcaselaw20.DevinfBack" = some 5 by kernel_rfl).symm.trans hf) |>.symm
   obtain rfl : fn = Go.Proofs.Tryz.f5 := (Option.some.inj (Go.Proofs.Tryz.func5.symm.trans hfn)).symm
   exact ⟨by kernel_rfl, fun j t ht => by
    rw [Go.Proofs.Tryz.params5] at ht
    have hm : t ∈ [28] := by simpa using Array.mem_of_getElem? ht
    have hall : ([28].all fun u => !(Go.Proofs.Tryz.prog).wantsStandIn u) = true := by kernel_rfl
    exact (show (Go.Proofs.Tryz.prog).wantsStandIn t = false by simpa using List.all_eq_true.1 hall t hm)⟩)
  (by kernel_rfl)
#print axioms devinfBack_card
end Go.Proofs.YthmjdmianbobbaaGreatDoor
