/- The law FnExactReadSet, walked: it answers true. -/
import Derived.Test.YtipadgpgcdjflaaReadS
namespace Go.Proofs.Ytipadgpgcdjflaa
open Go.RowKit

set_option maxHeartbeats 400000 in
theorem fnExactReadSet_walk (w : World) (s : ByteArray) (hs : s.size ≤ maxLen) :
    Calls Try.prog 4 #[.string s] w fun e w' => e = .returned (.bool true) ∧ Fresh w w' := by
  obtain ⟨l, rfl⟩ : ∃ l, s = strV l := ⟨s.data.toList, rfl⟩
  have hsz : (strV l).size = l.length := rfl
  rw [hsz] at hs
  unfold maxLen at hs
  by_cases hl : l.length ≤ 1048576
  case neg =>
    go_enter Try.func4, Try.ntmps4
    go_wp2
    go_ret
    exact ⟨rfl, Fresh.refl _⟩
  have HS := Lib.hid (specReadSet_any l (by omega))
  have HI := Lib.hid (implReadSet_any l)
  obtain ⟨n, hn⟩ : ∃ n, n = readI (readV l) := ⟨_, rfl⟩
  obtain ⟨b, hb⟩ : ∃ b, b = (readV l).isSome := ⟨_, rfl⟩
  unfold RSPost at HS HI
  rw [← hn, ← hb] at HS HI
  clear hn hb
  go_enter Try.func4, Try.ntmps4
  go_wp2_with fail
  refine (HS.out _).mono ?_
  rintro e w1 ⟨rfl, hF1⟩
  go_wp2_with fail
  refine (HI.out _).mono ?_
  rintro e w2 ⟨rfl, hF2⟩
  go_wp2
  go_ret
  exact ⟨rfl, hF1.trans hF2⟩
end Go.Proofs.Ytipadgpgcdjflaa
