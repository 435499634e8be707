/- What the draws of texts give. -/
import Derived.Test.YtipadgpgcdjflaaDraw
import Derived.Test.YtipadgpgcdjflaaReadS
import Derived.Test.YtipadgpgcdjflaaAlive
namespace Go.Proofs.Ytipadgpgcdjflaa
open Go.RowKit

set_option maxHeartbeats 1000000 in
theorem drawSetText_any (v : Value) (bs : List Int) (w : World) (h : Bytes w v bs) (hb : ∀ x ∈ bs, 0 ≤ x ∧ x ≤ 255) :
    Calls Try.prog 11 #[v] w fun e w' => ∃ x : Int, e = .returned (.int .i64 x) ∧ Fresh w w' := by
  go_enter Try.func11, Try.ntmps11
  go_wp2_with fail
  refine (l20Open_any v bs _ h hb).mono ?_
  rintro e w1 ⟨b, rfl, hR, hF, hlo⟩
  have hblt := hR.lt
  go_wp2_with fail
  refine (l20Code_any b _ _ _ hR (by omega) (by omega)).mono ?_
  rintro e w5 ⟨x5, rfl, R5, K5⟩
  have hF5 : Fresh w w5 := Fresh.keepsTrans hF K5 fun i hi => by omega
  go_wp2
  go_ret
  exact ⟨_, rfl, hF5⟩
theorem textI_ne {s : Int} (h : isCodeB s = true) : (strV (textI s)).toList.isEmpty = false := by
  rw [textI_in h, textL_eq, strV_tl]; rfl
theorem rs_code {s : Int} {w w' : World} {e : Ending} (h : RSPost (textI s) w e w') (hs : isCodeB s = true) : e = .returned (.tuple #[.int .i64 s, .bool true]) ∧ Fresh w w' := by
  obtain ⟨c0, c1⟩ := (isCodeB_iff s).1 hs
  have hv : readV (textI s) = some s.toNat := readV_some.2 ⟨by omega, textI_in hs⟩
  refine ⟨?_, h.2⟩
  have h1 := h.1
  rw [hv] at h1
  have h2 : readI (some s.toNat) = s := by show ((s.toNat : Nat) : Int) = s; omega
  rw [h2] at h1
  exact h1
set_option maxHeartbeats 1000000 in
theorem fnSetText_walk (w : World) (v : Value) (bs : List Int) (h : Bytes w v bs) (hb : ∀ x ∈ bs, 0 ≤ x ∧ x ≤ 255) :
    Calls Try.prog 5 #[v] w fun e w' => e = .returned (.bool true) ∧ Fresh w w' := by
  obtain ⟨a, cap, rfl⟩ := h.len
  have hbd := h.bound
  by_cases hl : bs.length ≤ 1048576
  case neg =>
    go_enter Try.func5, Try.ntmps5
    go_wp2
    go_ret
    exact ⟨rfl, Fresh.refl _⟩
  go_enter Try.func5, Try.ntmps5
  go_wp2_with fail
  refine (drawSetText_any _ bs _ h hb).mono ?_
  rintro e w1 ⟨s, rfl, hF1⟩
  clear h hb
  go_wp2_with fail
  refine (implSetText_any s _).mono ?_
  rintro e w2 ⟨rfl, hF2⟩
  cases hs : isCodeB s
  · have h0 := strV_nil
    rw [textI_no hs]
    have HT := Lib.hid (textI_no hs)
    go_wp2_with fail
    refine (specSetText_any s _).mono ?_
    rintro e w3 ⟨rfl, hF3⟩
    rw [HT.out]
    go_wp2_with fail
    refine (implCodeOk_any _ _).mono ?_
    rintro e w4 ⟨rfl, rfl⟩
    rw [hs]
    clear hs
    go_wp2_with fail
    refine (alive_any _).mono ?_
    rintro e w4 ⟨rfl, rfl⟩
    go_wp2
    go_ret
    exact ⟨rfl, (hF1.trans hF2).trans hF3⟩
  · have hne := textI_ne hs
    obtain ⟨c0, c1⟩ := (isCodeB_iff s).1 hs
    have HRS := Lib.hid (fun w w' e (h : RSPost (textI s) w e w') => rs_code h hs)
    have heq := strV_eq (textI s)
    clear hs
    go_wp2_with fail
    refine (specSetText_any s _).mono ?_
    rintro e w3 ⟨rfl, hF3⟩
    go_wp2_with fail
    refine (implReadSet_any (textI s) _).mono ?_
    rintro e w4 hP
    obtain ⟨rfl, hF4⟩ := HRS.out _ _ _ hP
    clear hP
    go_wp2
    go_ret
    exact ⟨rfl, ((hF1.trans hF2).trans hF3).trans hF4⟩
end Go.Proofs.Ytipadgpgcdjflaa
