/- The law FnExactLikeOk, walked: it answers true. -/
import Derived.Test.YtipboajbakjokaaSameL
import Derived.Test.YtipboajbakjokaaFrameR
namespace Go.Proofs.Ytipboajbakjokaa
open Go.RowKit

set_option maxHeartbeats 1000000 in
theorem fnExactLikeOk_walk (w : World) (v : Value) (p : List (List Int)) (h : RowsR w v p) (_ : WfRows p) (u : Value) (l : List (List Int)) (h' : RowsR w u l) (_ : WfRows l) :
    Calls Try.prog 6 #[v, u] w fun e w' => e = .returned (.bool true) ∧ Fresh w w' := by
  go_enter Try.func6, Try.ntmps6
  go_wp2_with fail
  refine (szIntSS_any v p 1048576 _ h (by omega) (by omega)).mono ?_
  rintro e w1 ⟨n, rfl, hn, rfl⟩
  rcases hn with rfl | ⟨h0, h1, hl, hr⟩
  · go_wp2
    go_ret
    exact ⟨rfl, Fresh.refl _⟩
  have hl1 : p.length ≤ 1048576 := by omega
  have hr1 : ∀ r ∈ p, r.length ≤ 1048576 := fun r hr' => by have := hr r hr'; omega
  have HR := Lib.hid hr1
  clear hr hr1 hl
  go_wp2_with fail
  refine (szIntSS_any u l n _ h' h0 h1).mono ?_
  rintro e w1 ⟨m, rfl, hm, rfl⟩
  rcases hm with rfl | ⟨h2, h3, hl, hr⟩
  · go_wp2
    go_ret
    exact ⟨rfl, Fresh.refl _⟩
  have hl2 : l.length ≤ 1048576 := by omega
  have hr2 : ∀ r ∈ l, r.length ≤ 1048576 := fun r hr' => by have := hr r hr'; omega
  have HR2 := Lib.hid hr2
  clear hr hr2 hl
  go_wp2_with fail
  refine (toIntSS_any v p _ h hl1 HR.out).mono ?_
  rintro e w1 ⟨r1, rfl, hO1, hF1⟩
  go_wp2_with fail
  refine (toIntSS_any u l _ (h'.fresh hF1) hl2 HR2.out).mono ?_
  rintro e w2 ⟨r2, rfl, hO2, hF2⟩
  have hF2' := hF1.trans hF2
  go_wp2_with fail
  refine (specLikeOk_any _ _ p l _ (hO1.fresh hF2).rows hO2.rows).mono ?_
  rintro e w3 ⟨rfl, hF3⟩
  have hF3' := hF2'.trans hF3
  clear hF1 hF2 hF2' hF3 hO1 hO2
  go_wp2_with fail
  refine (toIntSS_any v p _ (h.fresh hF3') hl1 HR.out).mono ?_
  rintro e w4 ⟨r4, rfl, hO4, hF4⟩
  have hF4' := hF3'.trans hF4
  go_wp2_with fail
  refine (toIntSS_any u l _ (h'.fresh hF4') hl2 HR2.out).mono ?_
  rintro e w5 ⟨r5, rfl, hO5, hF5⟩
  have hF5' := hF4'.trans hF5
  have hX5 := (hO4.fresh hF5).rows
  have hY5 := hO5.rows
  clear hF3' hF4 hF4' hF5 hO4 hO5
  go_wp2_with fail
  refine (implLikeOk_any _ _ p l _ hX5 hY5).mono ?_
  rintro e w6 ⟨rfl, hF6⟩
  have hF6' := hF5'.trans hF6
  have hX6 := hX5.fresh hF6
  have hY6 := hY5.fresh hF6
  clear hF5' hF6 hX5 hY5
  go_wp2_with fail
  refine (toIntSS_any v p _ (h.fresh hF6') hl1 HR.out).mono ?_
  rintro e w7 ⟨r7, rfl, hO7, hF7⟩
  have hF7' := hF6'.trans hF7
  have hX7 := hX6.fresh hF7
  have hY7 := hY6.fresh hF7
  clear hF6' hF7 hX6 hY6
  go_wp2_with fail
  refine (eqIntSS_any _ _ p p _ hX7 hO7.rows).mono ?_
  rintro e w8 ⟨rfl, hF8⟩
  have hF8' := hF7'.trans hF8
  have hY8 := hY7.fresh hF8
  clear hF7' hF8 hX7 hY7 hO7
  go_wp2_with fail
  refine (toIntSS_any u l _ (h'.fresh hF8') hl2 HR2.out).mono ?_
  rintro e w9 ⟨r9, rfl, hO9, hF9⟩
  have hF9' := hF8'.trans hF9
  have hY9 := hY8.fresh hF9
  clear hF8' hF9 hY8
  go_wp2_with fail
  refine (eqIntSS_any _ _ l l _ hY9 hO9.rows).mono ?_
  rintro e w10 ⟨rfl, hF10⟩
  have hF10' := hF9'.trans hF10
  clear hF9' hF10 hY9 hO9
  go_wp2
  go_ret
  exact ⟨rfl, hF10'⟩
end Go.Proofs.Ytipboajbakjokaa
