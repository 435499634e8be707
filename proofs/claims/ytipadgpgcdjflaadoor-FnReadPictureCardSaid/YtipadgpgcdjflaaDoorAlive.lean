/- The laws' fixed answer. -/
import Derived.Test.YtipadgpgcdjflaaDoorCodes
namespace Go.Proofs.YtipadgpgcdjflaaDoor
open Go.RowKit

theorem has52 : hasB 5 2 = true := by decide
theorem has51 : hasB 5 1 = false := by decide
set_option maxHeartbeats 400000 in
theorem alive_any (w : World) : Calls Tryd.prog 16 #[] w fun e w' => e = .returned (.bool true) ∧ w = w' := by
  have h1 := has52
  have h2 := has51
  go_enter Tryd.func16, Tryd.ntmps16
  go_wp2_with (go_at_call 33; refine (implHas_any _ _ _).mono ?_; rintro e w' ⟨rfl, rfl⟩)
  go_ret
  exact ⟨rfl, rfl⟩
end Go.Proofs.YtipadgpgcdjflaaDoor
