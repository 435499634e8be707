/- The walks of the laws on codes. -/
import Derived.Test.YtknddbmcnfjaiaaDraw2
import Derived.Test.YtknddbmcnfjaiaaSetLaws
namespace Go.Proofs.Ytknddbmcnfjaiaa
open Go.RowKit

theorem has52 : hasB 5 2 = true := by decide
theorem has51 : hasB 5 1 = false := by decide
set_option maxHeartbeats 400000 in
theorem alive_any (w : World) : Calls Try.prog 18 #[] w fun e w' => e = .returned (.bool true) ∧ w = w' := by
  have h1 := has52
  have h2 := has51
  go_enter Try.func18, Try.ntmps18
  go_wp2_with (go_at_call 16; refine (implHas_any _ _ _).mono ?_; rintro e w' ⟨rfl, rfl⟩)
  go_ret
  exact ⟨rfl, rfl⟩




set_option maxHeartbeats 400000 in
theorem fnExactFilledOf_walk (w : World) (a : Int) (_ : -9223372036854775808 ≤ a ∧ a ≤ 9223372036854775807) :
    Calls Try.prog 8 #[.int .i64 a] w fun e w' => e = .returned (.bool true) ∧ Fresh w w' := by
  go_enter Try.func8, Try.ntmps8
  go_wp2_with (first | (go_at_call 35; refine (specFilledOf_any _ _).mono ?_; rintro e w' ⟨rfl, hF⟩) | (go_at_call 36; refine (implFilledOf_any _ _).mono ?_; rintro e w' ⟨rfl, hF⟩))
  go_ret
  exact ⟨rfl, (by repeat (first | with_reducible exact Fresh.refl _ | assumption | refine Fresh.trans ?_ (by assumption)))⟩


theorem heldI_marks (n : Nat) : heldI (marks 1 n) 1 = 1 + n := by
  unfold heldI; rw [if_pos (by rw [marks_length]), marks_length]
set_option maxHeartbeats 400000 in
theorem fnExactMembersOf_walk (w : World) (a : Int) (_ : -9223372036854775808 ≤ a ∧ a ≤ 9223372036854775807) :
    Calls Try.prog 5 #[.int .i64 a] w fun e w' => e = .returned (.bool true) ∧ Fresh w w' := by
  have hlen := memsI_len a
  go_enter Try.func5, Try.ntmps5
  go_wp2_with fail
  refine (specMembersOf_any _ _).mono ?_
  rintro e w1 ⟨r1, rfl, hO1, hF1⟩
  go_wp2_with fail
  refine (implMembersOf_any _ _).mono ?_
  rintro e w2 ⟨r2, rfl, hO2, hF2⟩
  obtain ⟨zs, hz⟩ : ∃ zs, zs = memsI a := ⟨_, rfl⟩
  rw [← hz] at hlen hO1 hO2
  have HZ := Lib.hid hz
  clear hz
  go_wp2_with fail
  refine (eqIntS_any _ _ zs zs _ hO2.ints (hO1.fresh hF2).ints).mono ?_
  rintro e w3 ⟨rfl, hF3⟩
  go_wp2_with fail
  refine (markIntS_any w1.heap.size w2.heap.size _ zs 1 _ (hO2.fresh hF3) (by omega) (by omega)).mono ?_
  rintro e w4 ⟨rfl, hO4, hK4⟩
  have hO1' := ((hO1.fresh hF2).fresh hF3).keeps hK4 (fun g h1 h2 h3 => by omega)
  have hF4 : Fresh w w4 := ((hF1.trans hF2).trans hF3).keepsTrans hK4 (fun i hi => by have := hF1.size; omega)
  obtain ⟨ms, hms⟩ : ∃ ms, ms = marks 1 zs.length := ⟨_, rfl⟩
  have hml : ms.length = zs.length := by rw [hms, marks_length]
  have hheld : heldI ms 1 = 1 + zs.length := by rw [hms, heldI_marks]
  rw [← hms] at hO4
  clear hms
  have HH := Lib.hid hheld
  have HM := Lib.hid hml
  clear hheld hml hO1 hF1 hF2 hF3 hK4 hO2
  go_wp2_with fail
  refine (heldIntS_any _ ms 1 _ hO4.ints (by omega) (by rw [HM.out]; omega)).mono ?_
  rintro e w5 ⟨rfl, hF5⟩
  rw [HH.out]
  go_wp2_with fail
  refine (implMembersOf_any _ _).mono ?_
  rintro e w6 ⟨r6, rfl, hO6, hF6⟩
  rw [← HZ.out] at hO6
  go_wp2_with fail
  refine (eqIntS_any _ _ zs zs _ hO6.ints ((hO1'.fresh hF5).fresh hF6).ints).mono ?_
  rintro e w7 ⟨rfl, hF7⟩
  go_wp2_with fail
  refine (heldIntS_any _ ms 1 _ (((hO4.fresh hF5).fresh hF6).fresh hF7).ints (by omega) (by rw [HM.out]; omega)).mono ?_
  rintro e w8 ⟨rfl, hF8⟩
  rw [HH.out]
  go_wp2
  go_ret
  exact ⟨rfl, (by repeat (first | with_reducible exact Fresh.refl _ | assumption | refine Fresh.trans ?_ (by assumption)))⟩


set_option maxHeartbeats 1000000 in
theorem fnHas_walk (w : World) (v : Value) (bs : List Int) (h : Bytes w v bs) (hb : ∀ x ∈ bs, 0 ≤ x ∧ x ≤ 255) :
    Calls Try.prog 3 #[v] w fun e w' => e = .returned (.bool true) ∧ Fresh w w' := by
  obtain ⟨a, cap, rfl⟩ := h.len
  have hbd := h.bound
  by_cases hl : 1048576 < bs.length
  · go_enter Try.func3, Try.ntmps3
    go_wp2
    go_ret
    exact ⟨rfl, Fresh.refl _⟩
  have HB := Lib.hid h
  have HB2 := Lib.hid hb
  clear h hb
  go_enter Try.func3, Try.ntmps3
  go_wp2_with fail
  refine (drawHas_any _ bs _ HB.out HB2.out).mono ?_
  rintro e w1 ⟨x, y, rfl, hF1⟩
  clear HB HB2
  have h0 := has_self x
  cases h1 : hasB x y
  · go_wp2_with (first | (go_at_call 17; refine (specHas_any _ _ _).mono ?_; rintro e w' ⟨rfl, rfl⟩) | (go_at_call 16; refine (implHas_any _ _ _).mono ?_; rintro e w' ⟨rfl, rfl⟩) | (go_at_call 18; refine (alive_any _).mono ?_; rintro e w' ⟨rfl, rfl⟩))
    go_ret
    exact ⟨rfl, hF1⟩
  · have h2 := has_lt h1
    go_wp2_with (first | (go_at_call 17; refine (specHas_any _ _ _).mono ?_; rintro e w' ⟨rfl, rfl⟩) | (go_at_call 16; refine (implHas_any _ _ _).mono ?_; rintro e w' ⟨rfl, rfl⟩) | (go_at_call 18; refine (alive_any _).mono ?_; rintro e w' ⟨rfl, rfl⟩))
    go_ret
    exact ⟨rfl, hF1⟩

set_option maxHeartbeats 1000000 in
theorem fnWithinOf_walk (w : World) (v : Value) (bs : List Int) (h : Bytes w v bs) (hb : ∀ x ∈ bs, 0 ≤ x ∧ x ≤ 255) :
    Calls Try.prog 6 #[v] w fun e w' => e = .returned (.bool true) ∧ Fresh w w' := by
  obtain ⟨a, cap, rfl⟩ := h.len
  have hbd := h.bound
  by_cases hl : 1048576 < bs.length
  · go_enter Try.func6, Try.ntmps6
    go_wp2
    go_ret
    exact ⟨rfl, Fresh.refl _⟩
  have HB := Lib.hid h
  have HB2 := Lib.hid hb
  clear h hb
  go_enter Try.func6, Try.ntmps6
  go_wp2_with fail
  refine (drawWithinOf_any _ bs _ HB.out HB2.out).mono ?_
  rintro e w1 ⟨x, y, rfl, hF1⟩
  clear HB HB2
  cases hx : isCodeB x
  · have h1 : subB x y = false := by rw [Bool.eq_false_iff]; intro h; have := (subB_iff x y).1 h; rw [hx] at this; simp at this
    go_wp2_with (first | (go_at_call 30; refine (specWithinOf_any _ _ _).mono ?_; rintro e w' ⟨rfl, rfl⟩) | (go_at_call 29; refine (implWithinOf_any _ _ _).mono ?_; rintro e w' ⟨rfl, rfl⟩) | (go_at_call 18; refine (alive_any _).mono ?_; rintro e w' ⟨rfl, rfl⟩) | (go_at_call 31; refine (specCodeOk_any _ _).mono ?_; rintro e w' ⟨rfl, rfl⟩))
    go_ret
    exact ⟨rfl, hF1⟩
  · cases hy : isCodeB y
    · have h1 : subB x y = false := by rw [Bool.eq_false_iff]; intro h; have := (subB_iff x y).1 h; rw [hy] at this; simp at this
      go_wp2_with (first | (go_at_call 30; refine (specWithinOf_any _ _ _).mono ?_; rintro e w' ⟨rfl, rfl⟩) | (go_at_call 29; refine (implWithinOf_any _ _ _).mono ?_; rintro e w' ⟨rfl, rfl⟩) | (go_at_call 18; refine (alive_any _).mono ?_; rintro e w' ⟨rfl, rfl⟩) | (go_at_call 31; refine (specCodeOk_any _ _).mono ?_; rintro e w' ⟨rfl, rfl⟩))
      go_ret
      exact ⟨rfl, hF1⟩
    · have h0 := sub_zero hy
      have hb := sub_both hx hy
      cases h1 : subB x y
      · rw [h1, Bool.false_and] at hb
        have hb2 := hb.symm
        clear hb
        go_wp2_with (first | (go_at_call 30; refine (specWithinOf_any _ _ _).mono ?_; rintro e w' ⟨rfl, rfl⟩) | (go_at_call 29; refine (implWithinOf_any _ _ _).mono ?_; rintro e w' ⟨rfl, rfl⟩) | (go_at_call 18; refine (alive_any _).mono ?_; rintro e w' ⟨rfl, rfl⟩) | (go_at_call 31; refine (specCodeOk_any _ _).mono ?_; rintro e w' ⟨rfl, rfl⟩))
        go_ret
        exact ⟨rfl, hF1⟩
      · have h2 := sub_le h1
        rw [h1, Bool.true_and] at hb
        cases h3 : subB y x
        · rw [h3] at hb
          have hb2 := hb.symm
          clear hb
          go_wp2_with (first | (go_at_call 30; refine (specWithinOf_any _ _ _).mono ?_; rintro e w' ⟨rfl, rfl⟩) | (go_at_call 29; refine (implWithinOf_any _ _ _).mono ?_; rintro e w' ⟨rfl, rfl⟩) | (go_at_call 18; refine (alive_any _).mono ?_; rintro e w' ⟨rfl, rfl⟩) | (go_at_call 31; refine (specCodeOk_any _ _).mono ?_; rintro e w' ⟨rfl, rfl⟩))
          go_ret
          exact ⟨rfl, hF1⟩
        · rw [h3] at hb
          have hb2 := hb.symm
          clear hb
          go_wp2_with (first | (go_at_call 30; refine (specWithinOf_any _ _ _).mono ?_; rintro e w' ⟨rfl, rfl⟩) | (go_at_call 29; refine (implWithinOf_any _ _ _).mono ?_; rintro e w' ⟨rfl, rfl⟩) | (go_at_call 18; refine (alive_any _).mono ?_; rintro e w' ⟨rfl, rfl⟩) | (go_at_call 31; refine (specCodeOk_any _ _).mono ?_; rintro e w' ⟨rfl, rfl⟩))
          go_ret
          exact ⟨rfl, hF1⟩

end Go.Proofs.Ytknddbmcnfjaiaa
