/- The law FnExactPictureText, walked: it answers true. -/
import Derived.Test.YtipadgpgcdjflaaDoorPicTS
import Derived.Test.YtipadgpgcdjflaaDoorFrameR
namespace Go.Proofs.YtipadgpgcdjflaaDoor
open Go.RowKit

set_option maxHeartbeats 400000 in
theorem fnExactPictureText_walk (w : World) (v : Value) (p : List (List Int)) (h : RowsR w v p) (_ : WfRows p) :
    Calls Tryd.prog 6 #[v] w fun e w' => e = .returned (.bool true) ∧ Fresh w w' := by
  obtain ⟨t, ht⟩ : ∃ t, t = picI p := ⟨_, rfl⟩
  have HS := Lib.hid (fun v w h => specPictureText_any v p w h)
  have HI := Lib.hid (fun v w h => implPictureText_any v p w h)
  rw [← ht] at HS HI
  have heq := strV_eq t
  clear ht
  go_enter Tryd.func6, Tryd.ntmps6
  go_wp2_with fail
  refine (szIntSS_any v p 1048576 _ h (by omega) (by omega)).mono ?_
  rintro e w1 ⟨n, rfl, hn, rfl⟩
  rcases hn with rfl | ⟨h0, h1, hl, hr⟩
  · go_wp2
    go_ret
    exact ⟨rfl, Fresh.refl _⟩
  have hl1 : p.length ≤ 1048576 := by omega
  have hr1 : ∀ r ∈ p, r.length ≤ 1048576 := fun r hr' => by have := hr r hr'; omega
  have HR := Lib.hid hr1
  clear hr hr1
  go_wp2_with fail
  refine (toIntSS_any v p _ h hl1 HR.out).mono ?_
  rintro e w1 ⟨r1, rfl, hO1, hF1⟩
  go_wp2_with fail
  refine (HS.out _ _ hO1.rows).mono ?_
  rintro e w2 ⟨rfl, hF2⟩
  go_wp2_with fail
  refine (toIntSS_any v p _ ((h.fresh hF1).fresh hF2) hl1 HR.out).mono ?_
  rintro e w3 ⟨r3, rfl, hO3, hF3⟩
  go_wp2_with fail
  refine (HI.out _ _ hO3.rows).mono ?_
  rintro e w4 ⟨rfl, hF4⟩
  go_wp2_with fail
  refine (toIntSS_any v p _ ((((h.fresh hF1).fresh hF2).fresh hF3).fresh hF4) hl1 HR.out).mono ?_
  rintro e w5 ⟨r5, rfl, hO5, hF5⟩
  go_wp2_with fail
  refine (eqIntSS_any _ _ p p _ ((hO3.fresh hF4).fresh hF5).rows hO5.rows).mono ?_
  rintro e w6 ⟨rfl, hF6⟩
  go_wp2
  go_ret
  exact ⟨rfl, ((((hF1.trans hF2).trans hF3).trans hF4).trans hF5).trans hF6⟩
end Go.Proofs.YtipadgpgcdjflaaDoor
