/- The law FnExactReadPicture, walked: it answers true. -/
import Derived.Test.YtipadgpgcdjflaaDoorRpS
import Derived.Test.YtipadgpgcdjflaaDoorRows2
namespace Go.Proofs.YtipadgpgcdjflaaDoor
open Go.RowKit

theorem rpL_big (l : List UInt8) : (rpL l).length ≤ 1048576 ∧ ∀ r ∈ rpL l, r.length ≤ 1048576 := by
  cases h : rpB l
  · rw [rpL_no h]; simp
  · have hp := (picB_iff _).1 (rp_pic h).1
    exact ⟨by omega, fun r hr => by have := (hp.2.2 r hr).1; omega⟩
set_option maxRecDepth 100000 in
set_option maxHeartbeats 1000000 in
theorem fnExactReadPicture_walk (w : World) (s : ByteArray) (hs : s.size ≤ maxLen) :
    Calls Tryd.prog 3 #[.string s] w fun e w' => e = .returned (.bool true) ∧ Fresh w w' := by
  obtain ⟨l, rfl⟩ : ∃ l, s = strV l := ⟨s.data.toList, rfl⟩
  have hsz : (strV l).size = l.length := rfl
  rw [hsz] at hs
  unfold maxLen at hs
  by_cases hl : l.length ≤ 1048576
  case neg =>
    go_enter Tryd.func3, Tryd.ntmps3
    go_wp2
    go_ret
    exact ⟨rfl, Fresh.refl _⟩
  have HS := Lib.hid (fun w => specReadPicture_any l hl w)
  have HI := Lib.hid (fun w => implReadPicture_any l hl w)
  have HB := Lib.hid (rpL_big l)
  unfold RPPost at HS HI
  obtain ⟨res, hres⟩ : ∃ res, res = rpL l := ⟨_, rfl⟩
  obtain ⟨ok, hok⟩ : ∃ ok, ok = rpB l := ⟨_, rfl⟩
  rw [← hres] at HS HI HB
  rw [← hok] at HS HI
  clear hres hok
  go_enter Tryd.func3, Tryd.ntmps3
  go_wp2_with fail
  refine (HS.out _).mono ?_
  rintro e w2 ⟨r2, rfl, hW2, hF2⟩
  go_wp2_with fail
  refine (HI.out _).mono ?_
  rintro e w4 ⟨r4, rfl, hG4, hF4⟩
  have hW4 := hW2.fresh hF4
  have hF4' := hF2.trans hF4
  obtain ⟨lo2, hlo2⟩ : ∃ lo2, lo2 = w.heap.size := ⟨_, rfl⟩
  obtain ⟨hi2, hhi2⟩ : ∃ hi2, hi2 = w2.heap.size := ⟨_, rfl⟩
  obtain ⟨hi4, hhi4⟩ : ∃ hi4, hi4 = w4.heap.size := ⟨_, rfl⟩
  have hlo23 : lo2 ≤ hi2 := by rw [hlo2, hhi2]; exact hF2.size
  rw [← hlo2, ← hhi2] at hW4
  rw [← hhi2, ← hhi4] at hG4
  have HLO := Lib.hid hlo2
  clear hF2 hF4 hW2 hlo2 hhi2 hhi4
  go_wp2_with fail
  refine (eqIntSS_any _ _ res res _ hG4.rows hW4.rows).mono ?_
  rintro e w5 ⟨rfl, hF5⟩
  have hG5 := hG4.fresh hF5
  have hW5 := hW4.fresh hF5
  have hF5' := hF4'.trans hF5
  clear hG4 hW4 hF4' hF5
  go_wp2_with fail
  refine (markIntSS_any hi2 hi4 _ res 1 _ hG5 (by omega) (by omega) HB.out.1 HB.out.2).mono ?_
  rintro e w10 ⟨rfl, hG10, hK10⟩
  have hW10 := hW5.keeps hK10 (fun g h1 h2 h3 => by omega)
  have hF10 := hF5'.keepsTrans hK10 (fun i hi => by have := HLO.out; omega)
  clear hG5 hW5 hF5' hK10
  go_wp2_with fail
  refine (heldIntSS_any _ res 1 _ hG10.rows (by omega) (by omega) HB.out.1 HB.out.2).mono ?_
  rintro e w11 ⟨rfl, hF11⟩
  have hG11 := hG10.fresh hF11
  have hW11 := hW10.fresh hF11
  have hF11' := hF10.trans hF11
  have htot2 : (0 : Int) ≤ (totalR res : Nat) := Int.natCast_nonneg _
  clear hG10 hW10 hF10 hF11
  go_wp2_with fail
  refine (HI.out _).mono ?_
  rintro e w13 ⟨r13, rfl, hH13, hF13⟩
  have hG13 := hG11.fresh hF13
  have hW13 := hW11.fresh hF13
  have hF13' := hF11'.trans hF13
  clear hG11 hW11 hF11' hF13
  go_wp2_with fail
  refine (eqIntSS_any _ _ res res _ hH13.rows hW13.rows).mono ?_
  rintro e w14 ⟨rfl, hF14⟩
  have hG14 := hG13.fresh hF14
  have hF14' := hF13'.trans hF14
  clear hG13 hW13 hF13' hF14 hH13
  go_wp2_with fail
  refine (heldIntSS_any _ res 1 _ hG14.rows (by omega) (by omega) HB.out.1 HB.out.2).mono ?_
  rintro e w15 ⟨rfl, hF15⟩
  have hF15' := hF14'.trans hF15
  clear hG14 hF14' hF15
  go_wp2
  go_ret
  exact ⟨rfl, hF15'⟩
end Go.Proofs.YtipadgpgcdjflaaDoor
