/- The laws FnExactPictureOk and FnPictureOk of the program, walked: each answers true. -/
import Derived.Test.YtipboajbakjokaaPics1
import Derived.Test.YtipboajbakjokaaFrameR
namespace Go.Proofs.Ytipboajbakjokaa
open Go.RowKit

set_option maxHeartbeats 400000 in
theorem fnExactPictureOk_walk (w : World) (v : Value) (p : List (List Int)) (h : RowsR w v p) (_ : WfRows p) :
    Calls Try.prog 3 #[v] w fun e w' => e = .returned (.bool true) ∧ Fresh w w' := by
  go_enter Try.func3, Try.ntmps3
  go_wp2_with fail
  refine (szIntSS_any v p 1048576 _ h (by omega) (by omega)).mono ?_
  rintro e w1 ⟨n, rfl, hn, rfl⟩
  rcases hn with rfl | ⟨h0, h1, hl, hr⟩
  · go_wp2
    go_ret
    exact ⟨rfl, Fresh.refl _⟩
  have hl1 : p.length ≤ 1048576 := by omega
  have hr1 : ∀ r ∈ p, r.length ≤ 1048576 := fun r hr' => by have := hr r hr'; omega
  have HR := Lib.hid hr1
  clear hr hr1
  go_wp2_with fail
  refine (toIntSS_any v p _ h hl1 HR.out).mono ?_
  rintro e w1 ⟨r1, rfl, hO1, hF1⟩
  go_wp2_with fail
  refine (specPictureOk_any _ p _ hO1.rows).mono ?_
  rintro e w2 ⟨rfl, rfl⟩
  go_wp2_with fail
  refine (toIntSS_any v p _ (h.fresh hF1) hl1 HR.out).mono ?_
  rintro e w3 ⟨r3, rfl, hO3, hF3⟩
  go_wp2_with fail
  refine (implPictureOk_any _ p _ hO3.rows).mono ?_
  rintro e w4 ⟨rfl, rfl⟩
  go_wp2_with fail
  refine (toIntSS_any v p _ ((h.fresh hF1).fresh hF3) hl1 HR.out).mono ?_
  rintro e w5 ⟨r5, rfl, hO5, hF5⟩
  go_wp2_with fail
  refine (eqIntSS_any _ _ p p _ (hO3.fresh hF5).rows hO5.rows).mono ?_
  rintro e w6 ⟨rfl, hF6⟩
  go_wp2
  go_ret
  exact ⟨rfl, (by repeat (first | with_reducible exact Fresh.refl _ | assumption | refine Fresh.trans ?_ (by assumption)))⟩
end Go.Proofs.Ytipboajbakjokaa
