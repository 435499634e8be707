/- The walks of the laws on codes. -/
import Derived.Test.YtknkhenebnajhaaDraw2
import Derived.Test.YtknkhenebnajhaaSetLaws
namespace Go.Proofs.Ytknkhenebnajhaa
open Go.RowKit

theorem has52 : hasB 5 2 = true := by decide
theorem has51 : hasB 5 1 = false := by decide
set_option maxHeartbeats 400000 in
theorem alive_any (w : World) : Calls Try.prog 35 #[] w fun e w' => e = .returned (.bool true) ∧ w = w' := by
  have h1 := has52
  have h2 := has51
  go_enter Try.func35, Try.ntmps35
  go_wp2_with (go_at_call 17; refine (implHas_any _ _ _).mono ?_; rintro e w' ⟨rfl, rfl⟩)
  go_ret
  exact ⟨rfl, rfl⟩

set_option maxHeartbeats 400000 in
theorem fnExactAllMembersOf_walk (w : World) (a : Int) (_ : -9223372036854775808 ≤ a ∧ a ≤ 9223372036854775807) :
    Calls Try.prog 10 #[.int .i64 a] w fun e w' => e = .returned (.bool true) ∧ Fresh w w' := by
  go_enter Try.func10, Try.ntmps10
  go_wp2_with (first | (go_at_call 28; refine (specAllMembersOf_any _ _).mono ?_; rintro e w' ⟨rfl, hF⟩) | (go_at_call 29; refine (implAllMembersOf_any _ _).mono ?_; rintro e w' ⟨rfl, hF⟩))
  go_ret
  exact ⟨rfl, (by repeat (first | with_reducible exact Fresh.refl _ | assumption | refine Fresh.trans ?_ (by assumption)))⟩

set_option maxHeartbeats 400000 in
theorem fnExactDeepOf_walk (w : World) (a : Int) (_ : -9223372036854775808 ≤ a ∧ a ≤ 9223372036854775807) :
    Calls Try.prog 11 #[.int .i64 a] w fun e w' => e = .returned (.bool true) ∧ Fresh w w' := by
  go_enter Try.func11, Try.ntmps11
  go_wp2_with (first | (go_at_call 30; refine (specDeepOf_any _ _).mono ?_; rintro e w' ⟨rfl, hF⟩) | (go_at_call 31; refine (implDeepOf_any _ _).mono ?_; rintro e w' ⟨rfl, hF⟩))
  go_ret
  exact ⟨rfl, (by repeat (first | with_reducible exact Fresh.refl _ | assumption | refine Fresh.trans ?_ (by assumption)))⟩

set_option maxHeartbeats 400000 in
theorem fnExactFullOk_walk (w : World) (a : Int) (_ : -9223372036854775808 ≤ a ∧ a ≤ 9223372036854775807) :
    Calls Try.prog 12 #[.int .i64 a] w fun e w' => e = .returned (.bool true) ∧ Fresh w w' := by
  go_enter Try.func12, Try.ntmps12
  go_wp2_with (first | (go_at_call 32; refine (specFullOk_any _ _).mono ?_; rintro e w' ⟨rfl, hF⟩) | (go_at_call 33; refine (implFullOk_any _ _).mono ?_; rintro e w' ⟨rfl, hF⟩))
  go_ret
  exact ⟨rfl, (by repeat (first | with_reducible exact Fresh.refl _ | assumption | refine Fresh.trans ?_ (by assumption)))⟩


set_option maxHeartbeats 400000 in
theorem fnExactSetOf_walk (w : World) (v : Value) (zs : List Int) (h : Ints w v zs) (_ : ∀ n ∈ zs, -9223372036854775808 ≤ n ∧ n ≤ 9223372036854775807) :
    Calls Try.prog 9 #[v] w fun e w' => e = .returned (.bool true) ∧ Fresh w w' := by
  obtain ⟨a, cap, rfl⟩ := h.len
  have hbd := h.bound
  by_cases hl : 1048576 < zs.length
  · go_enter Try.func9, Try.ntmps9
    go_wp2
    go_ret
    exact ⟨rfl, Fresh.refl _⟩
  · have hl2 : zs.length ≤ 1048576 := by omega
    go_enter Try.func9, Try.ntmps9
    go_wp2_with fail
    refine (toIntS_any _ zs _ h hl2).mono ?_
    rintro e w1 ⟨r1, rfl, hO1, hF1⟩
    go_wp2_with fail
    refine (specSetOf_any _ zs _ hO1.ints).mono ?_
    rintro e w2 ⟨rfl, hF2⟩
    go_wp2_with fail
    refine (toIntS_any _ zs _ ((h.fresh hF1).fresh hF2) hl2).mono ?_
    rintro e w3 ⟨r3, rfl, hO3, hF3⟩
    go_wp2_with fail
    refine (implSetOf_any _ zs _ hO3.ints).mono ?_
    rintro e w4 ⟨rfl, hF4⟩
    go_wp2_with fail
    refine (toIntS_any _ zs _ ((((h.fresh hF1).fresh hF2).fresh hF3).fresh hF4) hl2).mono ?_
    rintro e w5 ⟨r5, rfl, hO5, hF5⟩
    go_wp2_with fail
    refine (eqIntS_any _ _ zs zs _ ((hO3.fresh hF4).fresh hF5).ints hO5.ints).mono ?_
    rintro e w6 ⟨rfl, hF6⟩
    go_wp2
    go_ret
    exact ⟨rfl, (by repeat (first | with_reducible exact Fresh.refl _ | assumption | refine Fresh.trans ?_ (by assumption)))⟩


set_option maxHeartbeats 1000000 in
theorem fnCodeOk_walk (w : World) (v : Value) (bs : List Int) (h : Bytes w v bs) (hb : ∀ x ∈ bs, 0 ≤ x ∧ x ≤ 255) :
    Calls Try.prog 13 #[v] w fun e w' => e = .returned (.bool true) ∧ Fresh w w' := by
  obtain ⟨a, cap, rfl⟩ := h.len
  have hbd := h.bound
  by_cases hl : 1048576 < bs.length
  · go_enter Try.func13, Try.ntmps13
    go_wp2
    go_ret
    exact ⟨rfl, Fresh.refl _⟩
  have HB := Lib.hid h
  have HB2 := Lib.hid hb
  clear h hb
  go_enter Try.func13, Try.ntmps13
  go_wp2_with fail
  refine (drawCodeOk_any _ bs _ HB.out HB2.out).mono ?_
  rintro e w1 ⟨x, rfl, hF1⟩
  clear HB HB2
  have c1 : isCodeB 65535 = true := by decide
  go_wp2_with (first | (go_at_call 14; refine (specCodeOk_any _ _).mono ?_; rintro e w' ⟨rfl, rfl⟩) | (go_at_call 15; refine (implCodeOk_any _ _).mono ?_; rintro e w' ⟨rfl, rfl⟩) | (go_at_call 35; refine (alive_any _).mono ?_; rintro e w' ⟨rfl, rfl⟩))
  go_loopw [5] (fun i wr => ∃ k : Nat, k ≤ 16 ∧ i = .int .i64 k ∧ Fresh w wr) (fun i _ => 16 - (intOf i).toNat)
  case atStart => exact ⟨0, by omega, rfl, hF1⟩
  case round =>
    clear hF1
    obtain ⟨k, hk, rfl, hF⟩ := hrel
    by_cases hlt : k < 16
    · have h1 : isCodeB (k : Int) = true := (isCodeB_iff _).2 (by omega)
      have h2 : isCodeB (-1 - (k : Int)) = false := (isCodeB_false _).2 (by omega)
      go_wp2_with (first | (go_at_call 14; refine (specCodeOk_any _ _).mono ?_; rintro e w' ⟨rfl, rfl⟩) | (go_at_call 15; refine (implCodeOk_any _ _).mono ?_; rintro e w' ⟨rfl, rfl⟩) | (go_at_call 35; refine (alive_any _).mono ?_; rintro e w' ⟨rfl, rfl⟩))
      go_roundw
      case rel => exact ⟨k + 1, by omega, by go_num, hF⟩
      case measure => simp [intOf]; omega
    · go_wp2_with (first | (go_at_call 14; refine (specCodeOk_any _ _).mono ?_; rintro e w' ⟨rfl, rfl⟩) | (go_at_call 15; refine (implCodeOk_any _ _).mono ?_; rintro e w' ⟨rfl, rfl⟩) | (go_at_call 35; refine (alive_any _).mono ?_; rintro e w' ⟨rfl, rfl⟩))
      go_ret
      exact ⟨rfl, hF⟩



end Go.Proofs.Ytknkhenebnajhaa
