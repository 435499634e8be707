/- What the draws of pictures for their texts give; the law FnPictureText. -/
import Derived.Test.YtipadgpgcdjflaaDoorDraw4
import Derived.Test.YtipadgpgcdjflaaDoorRpW
import Derived.Test.YtipadgpgcdjflaaDoorAlive
namespace Go.Proofs.YtipadgpgcdjflaaDoor
open Go.RowKit

set_option maxHeartbeats 1000000 in
theorem drawPictureText_any (v : Value) (bs : List Int) (w : World) (h : Bytes w v bs) (hb : ∀ x ∈ bs, 0 ≤ x ∧ x ≤ 255) :
    Calls Tryd.prog 12 #[v] w fun e w' => ∃ u p, e = .returned u ∧ RowsR w' u p ∧ Fresh w w' := by
  go_enter Tryd.func12, Tryd.ntmps12
  go_wp2_with fail
  refine (l20Open_any v bs _ h hb).mono ?_
  rintro e w1 ⟨b, rfl, hR, hF, hlo⟩
  go_wp2_with fail
  refine (l20Picture_any b _ _ _ hR (by omega) (by omega)).mono ?_
  rintro e w5 ⟨u, p, rfl, hO, h5, h6, hR5, K5⟩
  have hF5 : Fresh w w5 := Fresh.keepsTrans hF K5 fun i hi => by omega
  have hRR := hO.rows
  clear hO h6 hR5 K5 hF h hb
  go_wp2
  go_ret
  exact ⟨_, p, rfl, hRR, hF5⟩
set_option maxHeartbeats 1000000 in
theorem fnPictureText_walk (w : World) (v : Value) (bs : List Int) (h : Bytes w v bs) (hb : ∀ x ∈ bs, 0 ≤ x ∧ x ≤ 255) :
    Calls Tryd.prog 4 #[v] w fun e w' => e = .returned (.bool true) ∧ Fresh w w' := by
  obtain ⟨a, cap, rfl⟩ := h.len
  have hbd := h.bound
  by_cases hl : bs.length ≤ 1048576
  case neg =>
    go_enter Tryd.func4, Tryd.ntmps4
    go_wp2
    go_ret
    exact ⟨rfl, Fresh.refl _⟩
  go_enter Tryd.func4, Tryd.ntmps4
  go_wp2_with fail
  refine (drawPictureText_any _ bs _ h hb).mono ?_
  rintro e w1 ⟨u, p, rfl, hR, hF1⟩
  obtain ⟨ua, uc, rfl⟩ := hR.len
  have hpb := hR.bound
  clear h hb
  cases hp : picB p
  · have HT := Lib.hid (picI_no hp)
    have h0 := strV_nil
    go_wp2_with fail
    refine (implPictureText_any _ p _ hR).mono ?_
    rintro e w2 ⟨rfl, hF2⟩
    rw [HT.out]
    have hR2 := hR.fresh hF2
    have hF2' := hF1.trans hF2
    clear hR hF1 hF2
    go_wp2_with fail
    refine (specPictureText_any _ p _ hR2).mono ?_
    rintro e w3 ⟨rfl, hF3⟩
    rw [HT.out]
    have hR3 := hR2.fresh hF3
    have hF3' := hF2'.trans hF3
    clear hR2 hF2' hF3
    go_wp2_with fail
    refine (specPictureOk_any _ p _ hR3).mono ?_
    rintro e w4 ⟨rfl, rfl⟩
    rw [hp]
    clear hp
    go_wp2_with fail
    refine (alive_any _).mono ?_
    rintro e w4 ⟨rfl, rfl⟩
    go_wp2
    go_ret
    exact ⟨rfl, hF3'⟩
  · have HT := Lib.hid (picI_in hp)
    have HL := Lib.hid (show (picText p).length ≤ 1048576 by have := picI_len p; rw [picI_in hp] at this; omega)
    have HRP := Lib.hid (rp_text hp)
    have HIR := Lib.hid (fun w => implReadPicture_any (picText p) HL.out w)
    unfold RPPost at HIR
    rw [HRP.out.1, HRP.out.2] at HIR
    have heq := strV_eq (picText p)
    go_wp2_with fail
    refine (implPictureText_any _ p _ hR).mono ?_
    rintro e w2 ⟨rfl, hF2⟩
    rw [HT.out]
    have hR2 := hR.fresh hF2
    have hF2' := hF1.trans hF2
    clear hR hF1 hF2
    go_wp2_with fail
    refine (specPictureText_any _ p _ hR2).mono ?_
    rintro e w3 ⟨rfl, hF3⟩
    rw [HT.out]
    have hR3 := hR2.fresh hF3
    have hF3' := hF2'.trans hF3
    clear hR2 hF2' hF3
    go_wp2_with fail
    refine (specPictureOk_any _ p _ hR3).mono ?_
    rintro e w4 ⟨rfl, rfl⟩
    rw [hp]
    clear hp
    go_wp2_with fail
    refine (HIR.out _).mono ?_
    rintro e w5 ⟨r, rfl, hO5, hF5⟩
    have hR5 := hR3.fresh hF5
    have hF5' := hF3'.trans hF5
    clear hR3 hF3' hF5
    go_wp2_with fail
    refine (sameRows_any _ _ p p _ hO5.rows hR5).mono ?_
    rintro e w6 ⟨rfl, hF6⟩
    go_wp2
    go_ret
    exact ⟨by simp, hF5'.trans hF6⟩
end Go.Proofs.YtipadgpgcdjflaaDoor
