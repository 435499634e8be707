/- What the drawn inputs of the laws on codes may be. -/
import Derived.Test.YtknkhenebnajhaaDraw
import Derived.Test.YtknkhenebnajhaaCodes4
namespace Go.Proofs.Ytknkhenebnajhaa
open Go.RowKit

/-- some integer -/
def OneInt (w : World) (e : Ending) (w' : World) : Prop := ∃ x : Int, e = .returned (.int .i64 x) ∧ Fresh w w'
/-- some two integers -/
def TwoInts (w : World) (e : Ending) (w' : World) : Prop := ∃ x y : Int, e = .returned (.tuple #[.int .i64 x, .int .i64 y]) ∧ Fresh w w'
/-- a reader that the call made for itself -/
theorem Fresh.reader {w w1 w2 : World} {b : Nat} (h : Fresh w w1) (hb : w.heap.size ≤ b) (k : Keeps (fun i => i = b) w1 w2) : Fresh w w2 :=
  h.keepsTrans k fun i hi => by omega

set_option maxHeartbeats 400000 in
theorem drawCodeOk_any (v : Value) (bs : List Int) (w : World) (h : Bytes w v bs) (hb : ∀ x ∈ bs, 0 ≤ x ∧ x ≤ 255) :
    Calls Try.prog 34 #[v] w (OneInt w) := by
  go_enter Try.func34, Try.ntmps34
  go_wp2_with fail
  refine (l20Open_any v bs _ h hb).mono ?_
  rintro e w1 ⟨b, rfl, hR, hF, hlo⟩
  go_wp2_with fail
  refine (l20Code_any b 0 _ _ hR (by omega) (by omega)).mono ?_
  rintro e w2 ⟨x, rfl, hR2, hK⟩
  go_wp2
  go_ret
  exact ⟨_, rfl, hF.reader hlo hK⟩











end Go.Proofs.Ytknkhenebnajhaa
