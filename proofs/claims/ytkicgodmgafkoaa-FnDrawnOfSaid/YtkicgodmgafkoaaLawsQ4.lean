/- The law FnDrawnOf, walked: it answers true. -/
import Derived.Test.YtkicgodmgafkoaaLawsQ3
import Derived.Test.YtkicgodmgafkoaaDrawnP
import Derived.Test.YtkicgodmgafkoaaDrawn2
namespace Go.Proofs.Ytkicgodmgafkoaa
open Go.RowKit

set_option maxHeartbeats 2000000 in
theorem fnDrawnOf_walk (w : World) (v : Value) (bs : List Int) (h : Bytes w v bs) (hb : ∀ x ∈ bs, 0 ≤ x ∧ x ≤ 255) :
    Calls Try.prog 10 #[v] w fun e w' => e = .returned (.bool true) ∧ Fresh w w' := by
  obtain ⟨a, cap, rfl⟩ := h.len
  have hbd := h.bound
  by_cases hl : bs.length ≤ 1048576
  case neg =>
    go_enter Try.func10, Try.ntmps10
    go_wp2
    go_ret
    exact ⟨rfl, Fresh.refl _⟩
  go_enter Try.func10, Try.ntmps10
  go_wp2_with fail
  refine (drawDrawnOf_any _ bs _ h hb).mono ?_
  rintro e w1 ⟨s, rfl, hF⟩
  clear h hb
  go_wp2_with fail
  refine (implDrawnOf_any s _).mono ?_
  rintro e w2 ⟨r2, rfl, hO2, hF2⟩
  have hp2 := hO2.rows
  have hF2' := hF.trans hF2
  clear hF hF2 hO2
  have HTOLD := Lib.hid (drawn_told (s := s))
  have HNO := Lib.hid (drawnL_no (s := s))
  obtain ⟨ok, hok⟩ : ∃ ok, ok = drawnB s := ⟨_, rfl⟩
  rw [← hok] at HTOLD HNO ⊢
  have HOK := Lib.hid hok
  obtain ⟨p, hpp⟩ : ∃ p, p = drawnL s := ⟨_, rfl⟩
  rw [← hpp] at HTOLD HNO hp2
  have HPP := Lib.hid hpp
  clear hok hpp
  go_wp2_with fail
  refine (specDrawnOf_any s _).mono ?_
  rintro e w3 ⟨r3, rfl, hO3, hF3⟩
  rw [← HPP.out] at hO3
  rw [← HOK.out]
  have hp3 := hp2.fresh hF3
  have hF3' := hF2'.trans hF3
  clear hF2' hF3 hp2
  go_wp2_with fail
  refine (sameRows_any _ _ p p _ hp3 hO3.rows).mono ?_
  rintro e w4 ⟨rfl, hF4⟩
  have hp4 := hp3.fresh hF4
  have hF4' := hF3'.trans hF4
  clear hF3' hF4 hp3 hO3
  cases ok
  · have hpe : p = [] := HNO.out rfl
    subst hpe
    obtain ⟨pa, pc, rfl⟩ := hp4.len
    go_wp2_with fail
    refine (alive_any _).mono ?_
    rintro e w2 ⟨rfl, rfl⟩
    go_wp2
    go_ret
    exact ⟨rfl, hF4'⟩
  · obtain ⟨t1, t2, t3, t4⟩ := HTOLD.out rfl
    have HT1 := Lib.hid t1
    have HT3 := Lib.hid t3
    have HT4 := Lib.hid t4
    have HSN := Lib.hid (show ((s.toNat : Nat) : Int) = s by omega)
    clear t1 t3 t4 HTOLD HNO HOK HPP
    have hpb := hp4.bound
    obtain ⟨pa, pc, rfl⟩ := hp4.len
    go_wp2_with fail
    refine (implCodeAt_any _ p 0 _ hp4).mono ?_
    rintro e w5 hP
    obtain ⟨hF5, rfl⟩ := hP.out
    rw [HT1.out]
    clear hP
    rw [show codeV (some s.toNat) = ((s.toNat : Nat) : Int) from rfl, show (some s.toNat).isSome = true from rfl, HSN.out]
    have hp5 := hp4.fresh hF5
    have hF5' := hF4'.trans hF5
    clear hp4 hF4' hF5
    go_wp2_with fail
    refine (implReachedFrom_any _ p 0 _ hp5).mono ?_
    rintro e w6 ⟨r6, rfl, hO6, hF6⟩
    obtain ⟨ra, rc, hr⟩ := hO6.ints.len
    subst hr
    rw [HT3.out]
    have hp6 := hp5.fresh hF6
    have hF6' := hF5'.trans hF6
    clear hp5 hF5' hF6 hO6
    go_wp2_with fail
    refine (implComesBack_any _ p 0 _ hp6).mono ?_
    rintro e w7 ⟨rfl, hF7⟩
    rw [HT4.out]
    go_wp2
    go_ret
    exact ⟨rfl, hF6'.trans hF7⟩
end Go.Proofs.Ytkicgodmgafkoaa
