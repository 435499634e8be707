/- The law FnReadPicture, walked: it answers true. -/
import Derived.Test.YtipadgpgcdjflaaDoorDrawS
namespace Go.Proofs.YtipadgpgcdjflaaDoor
open Go.RowKit

set_option maxRecDepth 100000 in
set_option maxHeartbeats 1000000 in
theorem fnReadPicture_walk (w : World) (v : Value) (bs : List Int) (h : Bytes w v bs) (hb : ∀ x ∈ bs, 0 ≤ x ∧ x ≤ 255) :
    Calls Tryd.prog 5 #[v] w fun e w' => e = .returned (.bool true) ∧ Fresh w w' := by
  obtain ⟨a, cap, rfl⟩ := h.len
  have hbd := h.bound
  by_cases hl : bs.length ≤ 1048576
  case neg =>
    go_enter Tryd.func5, Tryd.ntmps5
    go_wp2
    go_ret
    exact ⟨rfl, Fresh.refl _⟩
  go_enter Tryd.func5, Tryd.ntmps5
  go_wp2_with fail
  refine (drawReadPicture_any _ bs _ h hb).mono ?_
  rintro e w1 ⟨l, rfl, hln, hF1⟩
  clear h hb
  have hl2 : l.length ≤ 1048576 := by omega
  have HS := Lib.hid (fun w => specReadPicture_any l hl2 w)
  have HI := Lib.hid (fun w => implReadPicture_any l hl2 w)
  unfold RPPost at HS HI
  cases hB : rpB l
  · rw [hB, rpL_no hB] at HS HI
    clear hB
    go_wp2_with fail
    refine (HI.out _).mono ?_
    rintro e w2 ⟨r2, rfl, hO2, hF2⟩
    obtain ⟨a2, c2, rfl⟩ := hO2.rows.len
    go_wp2_with fail
    refine (HS.out _).mono ?_
    rintro e w3 ⟨r3, rfl, hO3, hF3⟩
    have hR2 := (hO2.fresh hF3).rows
    have hR3 := hO3.rows
    have hF3' := (hF1.trans hF2).trans hF3
    clear hO2 hO3 hF1 hF2 hF3
    go_wp2_with fail
    refine (sameRows_any _ _ [] [] _ hR2 hR3).mono ?_
    rintro e w4 ⟨rfl, hF4⟩
    have hF4' := hF3'.trans hF4
    clear hF3' hF4 hR2 hR3
    go_wp2_with fail
    refine (alive_any _).mono ?_
    rintro e w5 ⟨rfl, rfl⟩
    go_wp2
    go_ret
    exact ⟨rfl, hF4'⟩
  · obtain ⟨hpic, htx⟩ := rp_pic hB
    obtain ⟨p, hp⟩ : ∃ p, p = rpL l := ⟨_, rfl⟩
    rw [hB, ← hp] at HS HI
    rw [← hp] at hpic htx
    have HPI := Lib.hid (show picI p = l by rw [picI_in hpic, htx])
    have HPIC := Lib.hid hpic
    have heq := strV_eq l
    clear hB hp hpic htx
    go_wp2_with fail
    refine (HI.out _).mono ?_
    rintro e w2 ⟨r2, rfl, hO2, hF2⟩
    go_wp2_with fail
    refine (HS.out _).mono ?_
    rintro e w3 ⟨r3, rfl, hO3, hF3⟩
    have hR2 := (hO2.fresh hF3).rows
    have hR3 := hO3.rows
    have hF3' := (hF1.trans hF2).trans hF3
    clear hO2 hO3 hF1 hF2 hF3
    go_wp2_with fail
    refine (sameRows_any _ _ p p _ hR2 hR3).mono ?_
    rintro e w4 ⟨rfl, hF4⟩
    have hF4' := hF3'.trans hF4
    have hR4 := hR2.fresh hF4
    have HOK := Lib.hid (implPictureOk_any _ p _ hR4)
    rw [HPIC.out] at HOK
    have HTX := Lib.hid (implPictureText_any _ p _ hR4)
    rw [HPI.out] at HTX
    clear hF3' hF4 hR2 hR3 hR4
    go_wp2_with fail
    refine HOK.out.mono ?_
    rintro e w5 ⟨rfl, rfl⟩
    go_wp2_with fail
    refine HTX.out.mono ?_
    rintro e w6 ⟨rfl, hF6⟩
    go_wp2_with fail
    refine (alive_any _).mono ?_
    rintro e w7 ⟨rfl, rfl⟩
    go_wp2
    go_ret
    exact ⟨rfl, hF4'.trans hF6⟩
end Go.Proofs.YtipadgpgcdjflaaDoor
