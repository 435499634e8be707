/- The exact laws on ways in pictures, walked: each answers true. -/
import Derived.Test.YtkicgodmgafkoaaBackS
import Derived.Test.YtkicgodmgafkoaaFrameR
namespace Go.Proofs.Ytkicgodmgafkoaa
open Go.RowKit

theorem reachI_few (p : List (List Int)) (a : Int) : (reachI p a).length ≤ 5 := by
  cases h : nodeB p a
  · rw [reachI_no h]; simp
  · have hp := ((nodeB_iff p a).1 h).1
    have := reachL_len p a.toNat
    have h5 := ((picB_iff p).1 hp).2.1
    rw [reachI, if_pos h, List.length_map]; omega

set_option maxHeartbeats 1000000 in
theorem fnExactReachedFrom_walk (w : World) (v : Value) (p : List (List Int)) (h : RowsR w v p) (_ : WfRows p) (m : Int) (_ : -9223372036854775808 ≤ m ∧ m ≤ 9223372036854775807) :
    Calls Try.prog 3 #[v, .int .i64 m] w fun e w' => e = .returned (.bool true) ∧ Fresh w w' := by
  go_enter Try.func3, Try.ntmps3
  go_wp2_with fail
  refine (szIntSS_any v p 1048576 _ h (by omega) (by omega)).mono ?_
  rintro e w1 ⟨n, rfl, hn, rfl⟩
  rcases hn with rfl | ⟨h0, h1, hl, hr⟩
  · go_wp2
    go_ret
    exact ⟨rfl, Fresh.refl _⟩
  have hl1 : p.length ≤ 1048576 := by omega
  have hr1 : ∀ r ∈ p, r.length ≤ 1048576 := fun r hr' => by have := hr r hr'; omega
  have HR := Lib.hid hr1
  clear hr hr1
  have hresb := (reachI_few p m)
  have HRES := Lib.hid hresb
  clear hresb
  go_wp2_with fail
  refine (toIntSS_any v p _ h hl1 HR.out).mono ?_
  rintro e w1 ⟨r1, rfl, hO1, hF1⟩
  go_wp2_with fail
  refine (specReachedFrom_any _ p m _ hO1.rows).mono ?_
  rintro e w2 ⟨r2, rfl, hW2, hF2⟩
  have hW2 := hW2.wider hF1.size (Nat.le_refl _)
  have hF2 := hF1.trans hF2
  go_wp2_with fail
  refine (toIntSS_any v p _ (h.fresh hF2) hl1 HR.out).mono ?_
  rintro e w3 ⟨r3, rfl, hX3, hF3⟩
  have hW3 := hW2.fresh hF3
  have hF3' := hF2.trans hF3
  go_wp2_with fail
  refine (implReachedFrom_any _ p m _ hX3.rows).mono ?_
  rintro e w4 ⟨r4, rfl, hG4, hF4⟩
  have hX4 := hX3.fresh hF4
  have hW4 := hW3.fresh hF4
  have hF4' := hF3'.trans hF4
  obtain ⟨lo2, hlo2⟩ : ∃ lo2, lo2 = w.heap.size := ⟨_, rfl⟩
  obtain ⟨hi2, hhi2⟩ : ∃ hi2, hi2 = w2.heap.size := ⟨_, rfl⟩
  obtain ⟨hi3, hhi3⟩ : ∃ hi3, hi3 = w3.heap.size := ⟨_, rfl⟩
  obtain ⟨hi4, hhi4⟩ : ∃ hi4, hi4 = w4.heap.size := ⟨_, rfl⟩
  have hlo23 : lo2 ≤ hi2 := by rw [hlo2, hhi2]; exact hF2.size
  rw [← hlo2, ← hhi2] at hW4
  rw [← hhi2, ← hhi3] at hX4
  rw [← hhi3, ← hhi4] at hG4
  have hs3 : lo2 ≤ hi3 := by rw [hlo2, hhi3]; exact hF3'.size
  have hs23 : hi2 ≤ hi3 := by rw [hhi2, hhi3]; exact hF3.size
  have HLO := Lib.hid hlo2
  clear hF1 hF2 hF3 hF3' hF4 hO1 hW2 hW3 hX3 hlo2 hhi2 hhi3 hhi4
  go_wp2_with fail
  refine (eqIntS_any _ _ (reachI p m) (reachI p m) _ hG4.ints hW4.ints).mono ?_
  rintro e w5 ⟨rfl, hF5⟩
  have hG5 := hG4.fresh hF5
  have hX5 := hX4.fresh hF5
  have hW5 := hW4.fresh hF5
  have hF5' := hF4'.trans hF5
  clear hG4 hX4 hW4 hF4' hF5
  go_wp2_with fail
  refine (toIntSS_any v p _ (h.fresh hF5') hl1 HR.out).mono ?_
  rintro e w6 ⟨r6, rfl, hO6, hF6⟩
  have hG6 := hG5.fresh hF6
  have hX6 := hX5.fresh hF6
  have hW6 := hW5.fresh hF6
  have hF6' := hF5'.trans hF6
  clear hG5 hX5 hW5 hF5' hF6
  go_wp2_with fail
  refine (eqIntSS_any _ _ p p _ hX6.rows hO6.rows).mono ?_
  rintro e w7 ⟨rfl, hF7⟩
  have hG7 := hG6.fresh hF7
  have hX7 := hX6.fresh hF7
  have hW7 := hW6.fresh hF7
  have hF7' := hF6'.trans hF7
  clear hG6 hX6 hW6 hF6' hF7 hO6
  go_wp2_with fail
  refine (markIntSS_any hi2 hi3 _ p 1 _ hX7 (by omega) (by omega) hl1 HR.out).mono ?_
  rintro e w8 ⟨rfl, -, hK8⟩
  have hG8 := hG7.keeps hK8 (fun g h1 h2 h3 => by omega)
  have hW8 := hW7.keeps hK8 (fun g h1 h2 h3 => by omega)
  have hF8 := hF7'.keepsTrans hK8 (fun i hi => by have := HLO.out; omega)
  have htot : (0 : Int) ≤ (totalR p : Nat) := Int.natCast_nonneg _
  clear hG7 hX7 hW7 hF7' hK8
  go_wp2_with fail
  refine (eqIntS_any _ _ (reachI p m) (reachI p m) _ hG8.ints hW8.ints).mono ?_
  rintro e w9 ⟨rfl, hF9⟩
  have hG9 := hG8.fresh hF9
  have hW9 := hW8.fresh hF9
  have hF9' := hF8.trans hF9
  clear hG8 hW8 hF8 hF9 htot
  go_wp2_with fail
  refine (markIntS_rng hi3 hi4 _ (reachI p m) 1 _ hG9 (by omega) (by have := (reachI_few p m); omega)).mono ?_
  rintro e w10 ⟨rfl, hG10, hK10⟩
  have hW10 := hW9.keeps hK10 (fun g h1 h2 h3 => by obtain ⟨ga, gb⟩ := (hG9.blk g h3).2; have := (hG9.blk g h3).1; omega)
  have hF10 := hF9'.keepsTrans hK10 (fun i hi => by have := (hG9.blk i hi).1; have := HLO.out; omega)
  clear hG9 hW9 hF9' hK10
  go_wp2_with fail
  refine (heldIntS_any _ (marks 1 (reachI p m).length) 1 _ hG10.ints (by omega) (by rw [marks_length]; have := (reachI_few p m); omega)).mono ?_
  rintro e w11 ⟨rfl, hF11⟩
  rw [heldI_marksK]
  have hG11 := hG10.fresh hF11
  have hW11 := hW10.fresh hF11
  have hF11' := hF10.trans hF11
  have htot2 : (0 : Int) ≤ ((reachI p m).length : Nat) := Int.natCast_nonneg _
  clear hG10 hW10 hF10 hF11
  go_wp2_with fail
  refine (toIntSS_any v p _ (h.fresh hF11') hl1 HR.out).mono ?_
  rintro e w12 ⟨r12, rfl, hO12, hF12⟩
  have hG12 := hG11.fresh hF12
  have hW12 := hW11.fresh hF12
  have hF12' := hF11'.trans hF12
  clear hG11 hW11 hF11' hF12
  go_wp2_with fail
  refine (implReachedFrom_any _ p m _ hO12.rows).mono ?_
  rintro e w13 ⟨r13, rfl, hH13, hF13⟩
  have hG13 := hG12.fresh hF13
  have hW13 := hW12.fresh hF13
  have hF13' := hF12'.trans hF13
  clear hG12 hW12 hF12' hF13 hO12
  go_wp2_with fail
  refine (eqIntS_any _ _ (reachI p m) (reachI p m) _ hH13.ints hW13.ints).mono ?_
  rintro e w14 ⟨rfl, hF14⟩
  have hG14 := hG13.fresh hF14
  have hF14' := hF13'.trans hF14
  clear hG13 hW13 hF13' hF14 hH13
  go_wp2_with fail
  refine (heldIntS_any _ (marks 1 (reachI p m).length) 1 _ hG14.ints (by omega) (by rw [marks_length]; have := (reachI_few p m); omega)).mono ?_
  rintro e w15 ⟨rfl, hF15⟩
  rw [heldI_marksK]
  have hF15' := hF14'.trans hF15
  clear hG14 hF14' hF15
  go_wp2
  go_ret
  exact ⟨rfl, hF15'⟩

set_option maxHeartbeats 1000000 in
theorem fnExactComesBack_walk (w : World) (v : Value) (p : List (List Int)) (h : RowsR w v p) (_ : WfRows p) (m : Int) (_ : -9223372036854775808 ≤ m ∧ m ≤ 9223372036854775807) :
    Calls Try.prog 4 #[v, .int .i64 m] w fun e w' => e = .returned (.bool true) ∧ Fresh w w' := by
  go_enter Try.func4, Try.ntmps4
  go_wp2_with fail
  refine (szIntSS_any v p 1048576 _ h (by omega) (by omega)).mono ?_
  rintro e w1 ⟨n, rfl, hn, rfl⟩
  rcases hn with rfl | ⟨h0, h1, hl, hr⟩
  · go_wp2
    go_ret
    exact ⟨rfl, Fresh.refl _⟩
  have hl1 : p.length ≤ 1048576 := by omega
  have hr1 : ∀ r ∈ p, r.length ≤ 1048576 := fun r hr' => by have := hr r hr'; omega
  have HR := Lib.hid hr1
  clear hr hr1
  go_wp2_with fail
  refine (toIntSS_any v p _ h hl1 HR.out).mono ?_
  rintro e w1 ⟨r1, rfl, hO1, hF1⟩
  go_wp2_with fail
  refine (specComesBack_any _ p m _ hO1.rows).mono ?_
  rintro e w2 ⟨rfl, hF2⟩
  have hF2 := hF1.trans hF2
  go_wp2_with fail
  refine (toIntSS_any v p _ (h.fresh hF2) hl1 HR.out).mono ?_
  rintro e w3 ⟨r3, rfl, hO3, hF3⟩
  have hF3 := hF2.trans hF3
  go_wp2_with fail
  refine (implComesBack_any _ p m _ hO3.rows).mono ?_
  rintro e w4 ⟨rfl, hF4⟩
  have hO4 := hO3.fresh hF4
  have hF4 := hF3.trans hF4
  go_wp2_with fail
  refine (toIntSS_any v p _ (h.fresh hF4) hl1 HR.out).mono ?_
  rintro e w5 ⟨r5, rfl, hO5, hF5⟩
  have hF5' := hF4.trans hF5
  go_wp2_with fail
  refine (eqIntSS_any _ _ p p _ (hO4.fresh hF5).rows hO5.rows).mono ?_
  rintro e w6 ⟨rfl, hF6⟩
  have hF6 := hF5'.trans hF6
  go_wp2
  go_ret
  exact ⟨rfl, hF6⟩
end Go.Proofs.Ytkicgodmgafkoaa
