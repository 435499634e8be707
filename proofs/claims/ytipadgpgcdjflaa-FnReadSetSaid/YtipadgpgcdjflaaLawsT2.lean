/- The law FnReadSet, walked: it answers true. -/
import Derived.Test.YtipadgpgcdjflaaDrawR
namespace Go.Proofs.Ytipadgpgcdjflaa
open Go.RowKit

set_option maxHeartbeats 1000000 in
theorem fnReadSet_walk (w : World) (v : Value) (bs : List Int) (h : Bytes w v bs) (hb : ∀ x ∈ bs, 0 ≤ x ∧ x ≤ 255) :
    Calls Try.prog 6 #[v] w fun e w' => e = .returned (.bool true) ∧ Fresh w w' := by
  obtain ⟨a, cap, rfl⟩ := h.len
  have hbd := h.bound
  by_cases hl : bs.length ≤ 1048576
  case neg =>
    go_enter Try.func6, Try.ntmps6
    go_wp2
    go_ret
    exact ⟨rfl, Fresh.refl _⟩
  go_enter Try.func6, Try.ntmps6
  go_wp2_with fail
  refine (drawReadSet_any _ bs _ h hb).mono ?_
  rintro e w1 ⟨l, rfl, hln, hF1⟩
  clear h hb
  go_wp2_with fail
  refine (implReadSet_any l _).mono ?_
  rintro e w2 ⟨rfl, hF2⟩
  have HV := Lib.hid (show readV l = readV l from rfl)
  generalize hv : readV l = o at *
  clear HV
  cases o with
  | none =>
    have HSP := Lib.hid (specReadSet_any l (by omega))
    unfold RSPost at HSP
    rw [hv] at HSP
    clear hv
    go_wp2_with fail
    refine (HSP.out _).mono ?_
    rintro e w3 ⟨rfl, hF3⟩
    go_wp2_with fail
    refine (alive_any _).mono ?_
    rintro e w4 ⟨rfl, rfl⟩
    go_wp2
    go_ret
    exact ⟨rfl, (hF1.trans hF2).trans hF3⟩
  | some n =>
    have HSP := Lib.hid (specReadSet_any l (by omega))
    unfold RSPost at HSP
    rw [hv] at HSP
    obtain ⟨hn, hle⟩ := readV_some.1 hv
    have HSM := Lib.hid (implReadSet_any (l ++ [125]))
    unfold RSPost at HSM
    rw [hle, readV_more hn] at HSM
    rw [← hle] at HSM
    have HT := Lib.hid (implSetText_any (n : Int))
    have HTI := Lib.hid (show textI (n : Int) = l by rw [textI_in ((isCodeB_iff _).2 ⟨by omega, by omega⟩), Int.toNat_natCast, ← hle])
    have heq := strV_eq l
    have HAP := Lib.hid (strV_app l [125])
    have hsz : (strV l).size ≤ 2000 := hln
    clear hv hle hn
    go_wp2_with fail
    refine (HSP.out _).mono ?_
    rintro e w3 ⟨rfl, hF3⟩
    go_wp2_with fail
    rw [show strV l ++ ⟨#[125]⟩ = strV (l ++ [125]) from HAP.out]
    refine (HSM.out _).mono ?_
    rintro e w4 ⟨rfl, hF4⟩
    go_wp2_with fail
    refine (HT.out _).mono ?_
    rintro e w5 ⟨rfl, hF5⟩
    rw [HTI.out]
    go_wp2
    go_ret
    exact ⟨rfl, (((hF1.trans hF2).trans hF3).trans hF4).trans hF5⟩
end Go.Proofs.Ytipadgpgcdjflaa
